/- Plain law: what is kept, as bytes, and read again: no program in sight.
   Plain law: what is kept, with its number, as bytes, and read again: no program in sight.
   Walks of entry.own, owns.
   Plain law of logs: what is left behind an index.
   Walk of entry.Compact, of any log. (Cut by mkcmp.py.) -/
import Derived.Test.YtlecglmiigdjlaaGreatDoorZb8
import Derived.Test.YtlecglmiigdjlaaGreatDoorZb10
import Derived.Test.YtlecglmiigdjlaaGreatDoorZb7
namespace Go.Proofs.YtlecglmiigdjlaaGreatDoor
set_option linter.unusedVariables false
set_option linter.unusedSimpArgs false
theorem dec_digs : ∀ u, Digs (Lib.decDigits u) := by
  intro u
  induction u using Nat.strongRecOn with
  | _ u ih =>
    rw [Lib.decDigits]
    split
    · intro c hc
      simp only [List.mem_singleton] at hc
      subst hc
      rw [isDig_iff, UInt8.toNat_ofNat']
      omega
    · intro c hc
      rw [List.mem_append] at hc
      rcases hc with hc | hc
      · exact ih _ (by omega) c hc
      · simp only [List.mem_singleton] at hc
        subst hc
        rw [isDig_iff, UInt8.toNat_ofNat']
        omega
theorem dec_val : ∀ u, decN 0 (Lib.decDigits u) = u := by
  intro u
  induction u using Nat.strongRecOn with
  | _ u ih =>
    rw [Lib.decDigits]
    split
    · rw [decN_cons, decN_nil, UInt8.toNat_ofNat']
      omega
    · rw [decN_snoc, ih _ (by omega), UInt8.toNat_ofNat']
      omega
theorem dec_ne (u : Nat) : Lib.decDigits u ≠ [] := by
  rw [Lib.decDigits]
  split <;> simp
theorem dec_head : ∀ u, 1 ≤ u → (Lib.decDigits u).head? ≠ some 48 := by
  intro u
  induction u using Nat.strongRecOn with
  | _ u ih =>
    intro h
    rw [Lib.decDigits]
    split
    · intro e
      have e1 : UInt8.ofNat (48 + u) = 48 := by simpa using e
      have e2 := congrArg UInt8.toNat e1
      rw [UInt8.toNat_ofNat'] at e2
      have : (48 : UInt8).toNat = 48 := rfl
      omega
    · have h1 := ih (u / 10) (by omega) (by omega)
      have h2 := dec_ne (u / 10)
      cases hd : Lib.decDigits (u / 10) with
      | nil => exact absurd hd h2
      | cons x l => rw [hd] at h1; exact h1
theorem dec_len {u : Nat} (hu : u < 18446744073709551616) : (Lib.decDigits u).length ≤ 20 := dig_size u hu
theorem dnum_dec {u : Nat} (hu : u < 18446744073709551616) : dnum (Lib.decDigits u) = .inr (u, (Lib.decDigits u).length) := by
  rw [dnum_digs (dec_digs u), if_neg (dec_ne u), dec_val, if_pos hu]
  refine if_neg ?_
  rintro ⟨h1, h2⟩
  by_cases h0 : 1 ≤ u
  · exact dec_head u h0 h1
  · obtain rfl : u = 0 := by omega
    rw [Lib.decDigits] at h2
    simp at h2
theorem dscan_run {sg : UInt8} (hsg : isDig sg = false) : ∀ (ds acc r : List UInt8), Digs ds → acc.length + ds.length ≤ 20 → dscan sg acc (ds ++ sg :: r) = dnum (acc ++ ds)
  | [], acc, r, _, _ => by rw [List.nil_append, dscan, if_pos rfl, List.append_nil]
  | c :: ds, acc, r, h, hl => by
    have hc := h c (by simp)
    rw [List.cons_append, dscan, if_neg (fun e => by subst e; rw [hsg] at hc; cases hc), if_neg, dscan_run hsg ds (acc ++ [c]) r (fun x hx => h x (List.mem_cons_of_mem _ hx)) (by simp at hl ⊢; omega)]
    · simp
    · rw [hc]
      simp at hl ⊢
      omega
theorem pnum_lay {x sg : UInt8} (hsg : isDig sg = false) {u : Nat} (hu : u < 18446744073709551616) (r : List UInt8) : pnum x sg (x :: (Lib.decDigits u ++ sg :: r)) = .inr (u, (Lib.decDigits u).length) := by
  rw [pnum, if_pos rfl, dscan_run hsg _ _ _ (dec_digs u) (by have := dec_len hu; simp; omega), List.nil_append, dnum_dec hu]
theorem numS_lay {x sg : UInt8} (hsg : isDig sg = false) {u : Nat} (hu : u < 18446744073709551616) (r : List UInt8) : numS x sg (x :: (Lib.decDigits u ++ sg :: r), 0) = ((x :: (Lib.decDigits u ++ sg :: r), 0), some (u, (Lib.decDigits u).length + 2)) := by
  rw [numS_eq rfl, pnum_lay hsg hu, numR_inr]
theorem drop_lay (x sg : UInt8) (ds r : List UInt8) (k : Nat) : (x :: (ds ++ sg :: r)).drop (ds.length + 2 + k) = r.drop k := by
  rw [show ds.length + 2 + k = (ds.length + (1 + k)) + 1 from by omega, List.drop_succ_cons, List.drop_append, show ds.length + (1 + k) - ds.length = k + 1 from by omega, List.drop_succ_cons, List.drop_of_length_le (by omega), List.nil_append]
theorem uintL_app (u : Nat) (r : List UInt8) : uintL u ++ r = 110 :: (Lib.decDigits u ++ 59 :: r) := by simp [uintL]
theorem bytesL_app (d r : List UInt8) : bytesL d ++ r = 98 :: (Lib.decDigits d.length ++ 58 :: (d ++ r)) := by simp [bytesL]
theorem uintS_lay {most u : Nat} (hu : u < 18446744073709551616) (hm : u ≤ most) (r : List UInt8) : uintS most (uintL u ++ r, 0) = ((r, 0), u) := by
  rw [uintL_app, uintS_ok (numS_lay (by decide) hu r) (by omega), show (Lib.decDigits u).length + 2 = (Lib.decDigits u).length + 2 + 0 from rfl, drop_lay]
  rfl
theorem boundS_lay {most u : Nat} (hu : u < 18446744073709551616) (hm : u ≤ most) (r : List UInt8) : boundS most (uintL u ++ r, 0) = ((uintL u ++ r, 0), some (u, (Lib.decDigits u).length + 2)) := by
  rw [uintL_app, boundS_eq (numS_lay (by decide) hu r), boundR_some, if_neg (by omega)]
theorem countS_lay {most u : Nat} (hu : u < 18446744073709551616) (hm : u ≤ most) (r : List UInt8) (hr : u ≤ r.length) : countS most (uintL u ++ r, 0) = ((r, 0), u) := by
  unfold countS
  rw [boundS_lay hu hm r]
  dsimp only
  rw [uintL_app, show (Lib.decDigits u).length + 2 = (Lib.decDigits u).length + 2 + 0 from rfl, drop_lay, if_neg]
  · rfl
  · simp
    omega
theorem bytesS_lay {most : Nat} {d : List UInt8} (hd : d.length < 18446744073709551616) (hm : d.length ≤ most) (r : List UInt8) : bytesS most (bytesL d ++ r, 0) = ((r, 0), d) := by
  rw [bytesL_app, bytesS_some (numS_lay (by decide) hd (d ++ r)), if_neg (by omega), if_neg (by simp; omega), drop_lay, show (Lib.decDigits d.length).length + 2 = (Lib.decDigits d.length).length + 2 + 0 from rfl, drop_lay]
  simp
theorem entS_lay {a b c : Nat} {d : List UInt8} (ha : a ≤ 1099511627776) (hb : b ≤ 1099511627776) (hc : c ≤ 2) (hd : d.length ≤ 4096) : entS (encN a b c d, 0) = (([], 0), (a, b, c, d)) := by
  have e : encN a b c d = uintL a ++ (uintL b ++ (uintL c ++ (bytesL d ++ []))) := by simp [encN]
  rw [e]
  exact entS_eq (uintS_lay (by omega) ha _) (uintS_lay (by omega) hb _) (uintS_lay (by omega) hc _) (bytesS_lay (by omega) hd _)
theorem entD_lay {a b c : Nat} {d : List UInt8} (ha : a ≤ 1099511627776) (hb : b ≤ 1099511627776) (hc : c ≤ 2) (hd : d.length ≤ 4096) (h1 : 1 ≤ a) (h2 : 1 ≤ b) : entD (encN a b c d) = some (a, b, c, d) := by
  rw [entD_eq (entS_lay ha hb hc hd), if_pos ⟨rfl, h1, h2⟩]
theorem confR_lay : ∀ (l : List Int) (r : List UInt8), (∀ z ∈ l, 0 ≤ z ∧ z ≤ 64) → confR l.length (confF l ++ r, 0) = ((r, 0), l)
  | [], r, _ => by simp [confR_zero, confF]
  | z :: l, r, h => by
    have hz := h z (by simp)
    have hu : uN z = z.toNat := by
      have := uN_nat z.toNat (by omega)
      rwa [Int.toNat_of_nonneg hz.1] at this
    have e : confF (z :: l) ++ r = uintL z.toNat ++ (confF l ++ r) := by simp [confF, hu]
    rw [List.length_cons, e, confR_succ, uintS_lay (by omega) (by omega), confR_lay l r fun x hx => h x (List.mem_cons_of_mem _ hx)]
    simp only [Int.toNat_of_nonneg hz.1]
theorem uintL_pos (u : Nat) : 1 ≤ (uintL u).length := by simp [uintL]
theorem confF_ge : ∀ (l : List Int), l.length ≤ (confF l).length
  | [] => by simp
  | z :: l => by
    have := confF_ge l
    have h2 := uintL_pos (uN z)
    simp only [confF, List.map_cons, List.flatten_cons, List.length_append, List.length_cons] at this ⊢
    omega
theorem cmay_small {l : List Int} (h : cmay l = true) : 1 ≤ l.length ∧ l.length ≤ 7 ∧ ∀ z ∈ l, 0 ≤ z ∧ z ≤ 64 := by
  obtain ⟨h1, _, h2, h3⟩ := cmay_iff.1 h
  exact ⟨h2, h3, fun z hz => by have := h1 z hz; omega⟩
theorem confD_lay {l : List Int} (h : cmay l = true) : confD (confL l) = some l := by
  obtain ⟨_, h7, hz⟩ := cmay_small h
  have hc : countS 7 (confL l, 0) = ((confF l, 0), l.length) := by unfold confL; exact countS_lay (by omega) h7 _ (confF_ge l)
  have hr := confR_lay l [] hz
  rw [List.append_nil] at hr
  rw [confD_eq hc hr, if_pos ⟨rfl, h⟩]
end Go.Proofs.YtlecglmiigdjlaaGreatDoor
namespace Go.Proofs.YtlecglmiigdjlaaGreatDoor
set_option linter.unusedVariables false
set_option linter.unusedSimpArgs false
/-- What is kept. -/
structure St where
  tm : Int
  vt : Int
  b : Int
  t : Int
  l : List En
  cf : List Int
  sn : List UInt8
def encI (e : En) : List UInt8 := encN (uN e.a) (uN e.b) (uN e.c) e.d
def entF (l : List En) : List UInt8 := (l.map fun e => bytesL (encI e)).flatten
def stL (n : Int) (s : St) : List UInt8 :=
  uintL (uN n) ++ uintL (uN s.tm) ++ uintL (uN s.vt) ++ uintL (uN s.b) ++ uintL (uN s.t) ++ bytesL (confL s.cf) ++ bytesL s.sn ++ uintL s.l.length ++ entF s.l
def St.may (s : St) : Bool :=
  lmay s.b s.t s.l && cmay s.cf && (s.l.all fun e => !rbad e.c e.d) && decide (lstB s.t s.l ≤ s.tm) && decide (s.tm ≤ 1099511627776) && decide (0 ≤ s.vt) && decide (s.vt ≤ 64)
theorem smay_st (tm vt b t : Int) (L : List Er) (cf : List Int) (sn : List UInt8) : smay tm vt b t L cf = St.may ⟨tm, vt, b, t, L.map en, cf, sn⟩ := by
  unfold smay St.may rdok
  simp only [List.all_map]
  rfl
/-- So many entries off what is read. -/
def listN : Option EnS → RdS → RdS × Option (List EnS) → RdS × Option (List EnS)
  | none, s, _ => (s, none)
  | some e, _, r => (r.1, r.2.map (e :: ·))
def listS : Nat → RdS → RdS × Option (List EnS)
  | 0, s => (s, some [])
  | m + 1, s => listN (entD (bytesS 4200 s).2) (bytesS 4200 s).1 (listS m (bytesS 4200 s).1)
theorem listS_zero (s : RdS) : listS 0 s = (s, some []) := rfl
theorem listS_succ (m : Nat) (s : RdS) : listS (m + 1) s = listN (entD (bytesS 4200 s).2) (bytesS 4200 s).1 (listS m (bytesS 4200 s).1) := rfl
theorem listS_none {m : Nat} {s s' : RdS} {d : List UInt8} (h : bytesS 4200 s = (s', d)) (hd : entD d = none) : listS (m + 1) s = (s', none) := by simp only [listS_succ, h, hd, listN]
theorem listS_some {m : Nat} {s s' : RdS} {d : List UInt8} {e : EnS} (h : bytesS 4200 s = (s', d)) (hd : entD d = some e) : listS (m + 1) s = ((listS m s').1, (listS m s').2.map (e :: ·)) := by simp only [listS_succ, h, hd, listN]
def ofS (x : EnS) : En := ⟨x.1, x.2.1, x.2.2.1, x.2.2.2⟩
def toS (e : En) : EnS := (e.a.toNat, e.b.toNat, e.c.toNat, e.d)
/-- What bytes tell, all read: where it ends, the five numbers, the members, the text, the entries. -/
structure Raw where
  n : Nat
  tm : Nat
  vt : Nat
  b : Nat
  t : Nat
  x : List UInt8
  sn : List UInt8
  es : Option (List EnS)
def stS (l : List UInt8) : RdS × Raw :=
  let a0 := uintS 1099511627776 (l, 0)
  let a1 := uintS 1099511627776 a0.1
  let a2 := uintS 1099511627776 a1.1
  let a3 := uintS 1099511627776 a2.1
  let a4 := uintS 1099511627776 a3.1
  let a5 := bytesS 512 a4.1
  let a6 := bytesS 1048576 a5.1
  let a7 := countS 4096 a6.1
  let a8 := listS a7.2 a7.1
  (a8.1, ⟨a0.2, a1.2, a2.2, a3.2, a4.2, a5.2, a6.2, a8.2⟩)
theorem stS_eq {l x sn : List UInt8} {s0 s1 s2 s3 s4 s5 s6 s7 s8 : RdS} {n tm vt b t m : Nat} {es : Option (List EnS)} (h0 : uintS 1099511627776 (l, 0) = (s0, n)) (h1 : uintS 1099511627776 s0 = (s1, tm)) (h2 : uintS 1099511627776 s1 = (s2, vt)) (h3 : uintS 1099511627776 s2 = (s3, b)) (h4 : uintS 1099511627776 s3 = (s4, t))
    (h5 : bytesS 512 s4 = (s5, x)) (h6 : bytesS 1048576 s5 = (s6, sn)) (h7 : countS 4096 s6 = (s7, m)) (h8 : listS m s7 = (s8, es)) : stS l = (s8, ⟨n, tm, vt, b, t, x, sn, es⟩) := by
  unfold stS; simp only [h0, h1, h2, h3, h4, h5, h6, h7, h8]
def finS (k : Int) (n : Nat) (f : List EnS → List Int → St) : Option (List EnS) → Option (List Int) → Option (Nat × St)
  | some es, some cf => if k = 0 ∧ 1 ≤ n ∧ (f es cf).may = true then some (n, f es cf) else none
  | _, _ => none
theorem finS_some (k : Int) (n : Nat) (f : List EnS → List Int → St) (es : List EnS) (cf : List Int) : finS k n f (some es) (some cf) = if k = 0 ∧ 1 ≤ n ∧ (f es cf).may = true then some (n, f es cf) else none := rfl
theorem finS_es (k : Int) (n : Nat) (f : List EnS → List Int → St) (o : Option (List Int)) : finS k n f none o = none := by cases o <;> rfl
theorem finS_cf (k : Int) (n : Nat) (f : List EnS → List Int → St) (o : Option (List EnS)) : finS k n f o none = none := by cases o <;> rfl
def Raw.st (r : Raw) (es : List EnS) (cf : List Int) : St := ⟨r.tm, r.vt, r.b, r.t, es.map ofS, cf, r.sn⟩
def Raw.fin (r : Raw) (s : RdS) : Option (Nat × St) := finS (doneS s) r.n r.st r.es (confD r.x)
theorem Raw.fin_eq {r : Raw} {s : RdS} {oe : Option (List EnS)} {oc : Option (List Int)} (h1 : r.es = oe) (h2 : confD r.x = oc) : r.fin s = finS (doneS s) r.n r.st oe oc := by unfold Raw.fin; rw [h1, h2]
def stD (l : List UInt8) : Option (Nat × St) := (stS l).2.fin (stS l).1
theorem stD_eq {l : List UInt8} {s : RdS} {r : Raw} (h : stS l = (s, r)) : stD l = r.fin s := by unfold stD; rw [h]
/-- An entry that may be. -/
def EnOk (e : En) : Prop := 1 ≤ e.a ∧ e.a ≤ 1099511627776 ∧ 1 ≤ e.b ∧ e.b ≤ 1099511627776 ∧ 0 ≤ e.c ∧ e.c ≤ 2 ∧ e.d.length ≤ 4096
theorem rgt_mem {ix : Int} : ∀ {tm : Int} {i : Nat} {l : List En}, rgt ix tm i l = true → ∀ e ∈ l, EnOk e := by
  intro tm i l
  induction l generalizing tm i with
  | nil => intro _ e he; cases he
  | cons x l ih =>
    intro h e he
    rw [rgt, Bool.and_eq_true] at h
    rcases List.mem_cons.1 he with rfl | he
    · obtain ⟨h1, _, h2, _, h3, h4, h5, h6, h7⟩ := okE_iff.1 h.1
      exact ⟨h1, h2, h3, h4, h5, h6, h7⟩
    · exact ih h.2 e he
theorem St.may_iff {s : St} (h : s.may = true) : lmay s.b s.t s.l = true ∧ cmay s.cf = true ∧ (0 ≤ s.b ∧ s.b ≤ 1099511627776 ∧ 0 ≤ s.t ∧ s.t ≤ 1099511627776) ∧ s.l.length ≤ 4096 ∧ (∀ e ∈ s.l, EnOk e) ∧ 0 ≤ s.tm ∧ s.tm ≤ 1099511627776 ∧ 0 ≤ s.vt ∧ s.vt ≤ 64 := by
  unfold St.may at h
  simp only [Bool.and_eq_true, decide_eq_true_eq] at h
  obtain ⟨⟨⟨⟨⟨⟨h1, h2⟩, h3⟩, h4⟩, h5⟩, h6⟩, h7⟩ := h
  have hm := h1
  unfold lmay at h1
  simp only [Bool.and_eq_true, Bool.or_eq_true, decide_eq_true_eq] at h1
  have hok := rgt_mem h1.2
  have hb : 0 ≤ s.b ∧ s.b ≤ 1099511627776 ∧ 0 ≤ s.t ∧ s.t ≤ 1099511627776 := by
    rcases h1.1.1 with ⟨h8, h9⟩ | h8 <;> omega
  refine ⟨hm, h2, hb, h1.1.2, hok, ?_, h5, h6, h7⟩
  rcases Nat.eq_zero_or_pos s.l.length with h0 | h0
  · have : s.l = [] := List.length_eq_zero_iff.1 h0
    rw [this] at h4
    simp [lstB] at h4
    omega
  · obtain ⟨e, he, _, h9⟩ := lstA_len (b := 0) h0
    have := hok e (List.mem_of_getElem? he)
    rw [h9] at h4
    unfold EnOk at this
    omega
theorem uN_toNat {z : Int} (h : 0 ≤ z) (h2 : z ≤ 1099511627776) : uN z = z.toNat := by
  have := uN_nat z.toNat (by omega)
  rwa [Int.toNat_of_nonneg h] at this
theorem encI_ok {e : En} (h : EnOk e) : encI e = encN e.a.toNat e.b.toNat e.c.toNat e.d := by
  unfold EnOk at h
  unfold encI
  rw [uN_toNat (by omega) (by omega), uN_toNat (by omega) (by omega), uN_toNat (by omega) (by omega)]
theorem entD_ok {e : En} (h : EnOk e) : entD (encI e) = some (toS e) := by
  rw [encI_ok h]
  unfold EnOk at h
  exact entD_lay (by omega) (by omega) (by omega) (by omega) (by omega) (by omega)
theorem ofS_toS {e : En} (h : EnOk e) : ofS (toS e) = e := by
  unfold EnOk at h
  cases e
  simp only [ofS, toS] at *
  congr <;> omega
theorem bytesL_len (d : List UInt8) (h : d.length < 18446744073709551616) : (bytesL d).length ≤ d.length + 22 := by
  have := dec_len h
  simp [bytesL]
  omega
theorem encN_len (a b c : Nat) (d : List UInt8) (ha : a < 18446744073709551616) (hb : b < 18446744073709551616) (hc : c < 18446744073709551616) (hd : d.length < 18446744073709551616) : (encN a b c d).length ≤ d.length + 88 := by
  have h1 := uintL_le a ha
  have h2 := uintL_le b hb
  have h3 := uintL_le c hc
  have h4 := bytesL_len d hd
  simp only [encN, List.length_append, List.length_nil]
  omega
theorem encI_len (e : En) (hd : e.d.length < 18446744073709551616) : (encI e).length ≤ e.d.length + 88 := encN_len _ _ _ _ (uN_lt _) (uN_lt _) (uN_lt _) hd
theorem listS_lay : ∀ (l : List En) (r : List UInt8), (∀ e ∈ l, EnOk e) → listS l.length (entF l ++ r, 0) = ((r, 0), some (l.map toS))
  | [], r, _ => by simp [listS_zero, entF]
  | e :: l, r, h => by
    have he := h e (by simp)
    have hd : e.d.length ≤ 4096 := he.2.2.2.2.2.2
    have hl := encI_len e (by omega)
    have h1 : entF (e :: l) ++ r = bytesL (encI e) ++ (entF l ++ r) := by simp [entF]
    rw [List.length_cons, h1, listS_some (bytesS_lay (by omega) (by omega) _) (entD_ok he), listS_lay l r fun x hx => h x (List.mem_cons_of_mem _ hx)]
    rfl
theorem entF_ge : ∀ (l : List En), l.length ≤ (entF l).length
  | [] => by simp
  | e :: l => by
    have := entF_ge l
    have h2 : 1 ≤ (bytesL (encI e)).length := by simp [bytesL]
    simp only [entF, List.map_cons, List.flatten_cons, List.length_append, List.length_cons] at this ⊢
    omega
theorem stS_lay {n : Int} {s : St} (h : s.may = true) (hn : 0 ≤ n) (hn2 : n ≤ 1099511627776) (hs : s.sn.length ≤ 1048576) : stS (stL n s) = (([], 0), ⟨n.toNat, s.tm.toNat, s.vt.toNat, s.b.toNat, s.t.toNat, confL s.cf, s.sn, some (s.l.map toS)⟩) := by
  obtain ⟨h1, h2, h3, h4, h5, h6, h7, h8, h9⟩ := St.may_iff h
  have hc : (confL s.cf).length ≤ 176 := by
    have := confF_le s.cf
    have h10 := (cmay_small h2).2.1
    have h11 := uintL_le s.cf.length (by omega)
    unfold confL
    rw [List.length_append]
    omega
  have hl := listS_lay s.l [] h5
  rw [List.append_nil] at hl
  have e : stL n s = uintL n.toNat ++ (uintL s.tm.toNat ++ (uintL s.vt.toNat ++ (uintL s.b.toNat ++ (uintL s.t.toNat ++ (bytesL (confL s.cf) ++ (bytesL s.sn ++ (uintL s.l.length ++ entF s.l))))))) := by
    unfold stL
    rw [uN_toNat hn hn2, uN_toNat h6 h7, uN_toNat h8 (by omega), uN_toNat h3.1 h3.2.1, uN_toNat h3.2.2.1 h3.2.2.2]
    simp only [List.append_assoc]
  rw [e]
  exact stS_eq (uintS_lay (by omega) (by omega) _) (uintS_lay (by omega) (by omega) _) (uintS_lay (by omega) (by omega) _) (uintS_lay (by omega) (by omega) _) (uintS_lay (by omega) (by omega) _) (bytesS_lay (by omega) (by omega) _) (bytesS_lay (by omega) (by omega) _) (countS_lay (by omega) h4 _ (entF_ge _)) hl
theorem map_ofS {l : List En} (h : ∀ e ∈ l, EnOk e) : (l.map toS).map ofS = l := by
  rw [List.map_map]
  conv => rhs; rw [← List.map_id l]
  exact List.map_congr_left fun e he => ofS_toS (h e he)
/-- What is laid down is read as it was. -/
theorem stD_lay {n : Int} {s : St} (h : s.may = true) (hn : 1 ≤ n) (hn2 : n ≤ 1099511627776) (hs : s.sn.length ≤ 1048576) : stD (stL n s) = some (n.toNat, s) := by
  obtain ⟨h1, h2, h3, h4, h5, h6, h7, h8, h9⟩ := St.may_iff h
  rw [stD_eq (stS_lay h (by omega) hn2 hs), Raw.fin_eq rfl (confD_lay h2), finS_some]
  have e : Raw.st ⟨n.toNat, s.tm.toNat, s.vt.toNat, s.b.toNat, s.t.toNat, confL s.cf, s.sn, some (s.l.map toS)⟩ (s.l.map toS) s.cf = s := by
    unfold Raw.st
    dsimp only
    rw [map_ofS h5, Int.toNat_of_nonneg h6, Int.toNat_of_nonneg h8, Int.toNat_of_nonneg h3.1, Int.toNat_of_nonneg h3.2.2.1]
  rw [e]
  exact if_pos ⟨rfl, by show 1 ≤ n.toNat; omega, h⟩
/-- What may be is told apart by its bytes. -/
theorem stL_inj {n : Int} {s s' : St} (h : s.may = true) (h' : s'.may = true) (hn : 1 ≤ n) (hn2 : n ≤ 1099511627776) (hs : s.sn.length ≤ 1048576) (hs' : s'.sn.length ≤ 1048576) (he : stL n s = stL n s') : s = s' := by
  have h1 := stD_lay h hn hn2 hs
  have h2 := stD_lay h' hn hn2 hs'
  rw [he, h2] at h1
  exact (congrArg Prod.snd (Option.some.inj h1)).symm
def stR (s : St) : List UInt8 := uintL (uN s.tm) ++ (uintL (uN s.vt) ++ (uintL (uN s.b) ++ (uintL (uN s.t) ++ (bytesL (confL s.cf) ++ (bytesL s.sn ++ (uintL s.l.length ++ entF s.l))))))
theorem stL_eq (n : Int) (s : St) : stL n s = uintL (uN n) ++ stR s := by
  unfold stL stR
  simp only [List.append_assoc]
theorem stL_iff {s s' : St} {n m : Int} : stL n s = stL n s' ↔ stL m s = stL m s' := by
  rw [stL_eq, stL_eq, stL_eq, stL_eq, List.append_cancel_left_eq, List.append_cancel_left_eq]
end Go.Proofs.YtlecglmiigdjlaaGreatDoor
namespace Go.Proofs.YtlecglmiigdjlaaGreatDoor
open Go.RowKit
set_option maxRecDepth 100000
set_option linter.unusedVariables false
set_option linter.unusedSimpArgs false
theorem own1_any (x : Er) (w : World) (hr : Rd w T 1 x.A x.n (bs x.d)) (hn : x.n ≤ 1000000) :
    Calls Tryz.prog 124 #[.agg #[.int .i64 x.a, .int .i64 x.b, .int .i64 x.c, .slice x.A x.n x.m]] w (GivePost w x) := by
  have hcl := fun W (hb : Below w.heap.size w W) => clone_any x.A x.n x.m (bs x.d) W (hr.below hb) (bs_one _) (by omega)
  have Hcl := Lib.hid hcl
  clear hcl hr
  have hb0 : Below w.heap.size w ((w.alloc (.cells #[.int .i64 x.a, .int .i64 x.b, .int .i64 x.c, .slice x.A x.n x.m] 143)).alloc (.cells #[.int .i64 0, .int .i64 0, .int .i64 0, .slice none 0 0] 143)) := ((Below.refl _ _).alloc (Nat.le_refl _) _).alloc (by simp) _
  have XB := (Bx.new w #[.int .i64 x.a, .int .i64 x.b, .int .i64 x.c, .slice x.A x.n x.m] 143 rfl).alloc (.cells #[.int .i64 0, .int .i64 0, .int .i64 0, .slice none 0 0] 143)
  have XR := Bx.new (w.alloc (.cells #[.int .i64 x.a, .int .i64 x.b, .int .i64 x.c, .slice x.A x.n x.m] 143)) #[.int .i64 0, .int .i64 0, .int .i64 0, .slice none 0 0] 143 (g := w.heap.size + 1) (by simp)
  have HX := Lib.hid (And.intro XB XR)
  have Hb0 := Lib.hid hb0
  clear XB XR hb0
  go_enter Tryz.func124, Tryz.ntmps124
  go_wp2_with fail
  refine (Hcl.out _ Hb0.out).mono ?_
  rintro e w3 ⟨A3, c3, rfl, hown3, hb3⟩
  obtain ⟨p0, p1, p2, p3, f0, f1, f2, f3⟩ := (HX.out.1.below hb3).c4
  obtain ⟨r0, r1, r2, r3, g0, g1, g2, g3⟩ := (HX.out.2.below hb3).c4
  have hz3 := hb3.size
  simp only [World.size_alloc] at hz3
  have n1 : ¬ w.heap.size + 1 = w.heap.size := by omega
  have n2 : ¬ w.heap.size = w.heap.size + 1 := by omega
  have Ho := Lib.hid hown3
  have Hb3 := Lib.hid hb3
  clear hown3 hb3
  go_wp2_with fail
  refine bodyPost_ret (by simp [results, Tryz.results124, go_sem, r0, r1, r2, r3, n1, n2]; rfl) rfl ?_
  have hm := own_cap Ho.out
  have hb4 := Hb0.out.trans (Hb3.out.mono (by simp; omega))
  have h1 : ¬ w.heap.size + 1 + 1 ≤ w.heap.size := by omega
  have h2 : ¬ w.heap.size + 1 + 1 ≤ w.heap.size + 1 := by omega
  have r5 : Rd w3 (w.heap.size + 1 + 1 ≤ ·) 1 A3 x.n (bs x.d) := by have := Rd.of_own Ho.out; simpa using this
  refine ⟨A3, c3, rfl, ?_, hm.1, hm.2, ?_⟩
  · exact (((((r5.setCell (p := ⟨w.heap.size, 3, none⟩) h1 _).setCell (p := ⟨w.heap.size + 1, 0, none⟩) h2 _).setCell (p := ⟨w.heap.size + 1, 1, none⟩) h2 _).setCell (p := ⟨w.heap.size + 1, 2, none⟩) h2 _).setCell (p := ⟨w.heap.size + 1, 3, none⟩) h2 _).mono fun b hb => by omega
  · exact ((((hb4.setCell (Nat.le_refl _) _).setCell (by show w.heap.size ≤ w.heap.size + 1; omega) _).setCell (by show w.heap.size ≤ w.heap.size + 1; omega) _).setCell (by show w.heap.size ≤ w.heap.size + 1; omega) _).setCell (by show w.heap.size ≤ w.heap.size + 1; omega) _
set_option maxHeartbeats 1600000 in
theorem owns_any (A : Option Addr) (n c : Nat) (L : List Er) (w : World) {ok : Nat → Prop} (hr : Rd w ok 4 A n (flat ecell L)) (hd : Dat w L) (hs : ∀ x ∈ L, x.n ≤ 1000000) (hn : n ≤ 1000000) :
    Calls Tryz.prog 104 #[.slice A n c] w (GivesPost w n L) := by
  have Hll := Lib.hid (hr.flen ecell_len (by omega))
  have Hd := Lib.hid hd
  have Hs := Lib.hid hs
  have Hr := Lib.hid hr
  clear hd hs hr
  go_enter Tryz.func104, Tryz.ntmps104
  go_wp2_with fail
  go_loopg [3, 5, 8] n (fun m s3 s5 s8 wr => ∃ (j : Nat) (A' : Option Addr) (c' : Nat) (L' : List Er), m = n - j ∧ j ≤ n ∧ s8 = .int .i64 j ∧ s3 = .slice A' j c' ∧ Ro wr w.heap.size A' j c' L' ∧ Same (L.take j) L' ∧ Below w.heap.size w wr)
  case atStart => exact ⟨0, none, 0, [], by omega, by omega, rfl, rfl, Ro.nil _ _, rfl, Below.refl _ _⟩
  case round =>
    obtain ⟨j, A', c', L', hm, hj, rfl, rfl, hro, hsm, hb⟩ := hrel
    have Hm := Lib.hid hm
    have Ro1 := Lib.hid hro
    have Sm := Lib.hid hsm
    have Hb := Lib.hid hb
    clear hm hro hsm hb
    by_cases hlt : j < n
    · obtain ⟨b, o, x, rfl, _, hbl, hx, c0, c1, c2, c3⟩ := er_cells (Hr.out.below Hb.out) hlt
      have hjI : (j : Int) < n := by omega
      have hdx := (Hd.out x (List.mem_of_getElem? hx)).1.below Hb.out
      have hxn := Hs.out x (List.mem_of_getElem? hx)
      have hg1 := fun ob => own1_any x (wr.alloc ob) (hdx.alloc ob) hxn
      have Hg1 := Lib.hid hg1
      have Hx := Lib.hid hx
      clear hdx hx hg1
      go_wp2_with fail
      refine (Hg1.out _).mono ?_
      rintro e w2 ⟨A2, m2, rfl, r2, hm1, hm2, hb2⟩
      replace hb2 := ((Below.refl wr.heap.size wr).alloc (Nat.le_refl _) (.cells #[.int .i64 x.a, .int .i64 x.b, .int .i64 x.c, .slice x.A x.n x.m] 143)).trans (hb2.mono (by simp))
      replace r2 := r2.mono (ok' := (wr.heap.size ≤ ·)) fun b hb => by simp at hb; omega
      have ro2 := Ro1.out.below hb2
      have hz2 := hb2.size
      have hz1 := Hb.out.size
      have R2 := Lib.hid r2
      have Ro2 := Lib.hid ro2
      have Hb2 := Lib.hid hb2
      clear r2 ro2 hb2
      go_wp2_with (at_builtin; refine wpList_append_any (news := [.int .i64 x.a, .int .i64 x.b, .int .i64 x.c, .slice A2 x.n m2]) _ Tryz.underlying29 ent_elem rfl (by omega) rfl rfl rfl (Ro2.out.alloc _).ow rfl (show Rd (w2.alloc (.cells #[.int .i64 x.a, .int .i64 x.b, .int .i64 x.c, .slice A2 x.n m2] 143)) T 4 (some ⟨w2.heap.size, 0, none⟩) 1 [.int .i64 x.a, .int .i64 x.b, .int .i64 x.c, .slice A2 x.n m2] from (Rd.lit4 _ _ rfl)) (by intro u hu; simp only [List.mem_cons, List.not_mem_nil, or_false] at hu; rcases hu with rfl | rfl | rfl | rfl <;> rfl) (by omega) (by simp; omega) rfl rfl ?_; intro A3 c3' w3 hown3 hg3 hat3)
      have hpush := (Ro2.out.alloc (.cells #[.int .i64 x.a, .int .i64 x.b, .int .i64 x.c, .slice A2 x.n m2] 143)).push (y := ⟨x.a, x.b, x.c, A2, x.n, m2, x.d⟩) ((R2.out.alloc _).mono fun b hb => ⟨by omega, fun e => by have := own_lt Ro1.out.ow b e; omega⟩) hm1 hm2 rfl hown3 hg3 hat3
      have hsm2 : Same (L.take (j + 1)) (L' ++ [⟨x.a, x.b, x.c, A2, x.n, m2, x.d⟩]) := by
        unfold Same
        rw [List.take_add_one, Hx.out, List.map_append, List.map_append, Sm.out]
        rfl
      have hb3 := (((Hb.out.trans (Hb2.out.mono Hb.out.size)).alloc (by omega) (.cells #[.int .i64 x.a, .int .i64 x.b, .int .i64 x.c, .slice A2 x.n m2] 143))).grown hg3 (by simp; omega) (fun q hq => (own_lt Ro1.out.ow q hq).1)
      go_roundg (n - (j + 1))
      case measure => have := Hm.out; omega
      case rel => exact ⟨j + 1, A3, c3', _, rfl, by omega, by go_num, rfl, hpush, hsm2, hb3⟩
    · obtain rfl : j = n := by omega
      go_wp2_with fail
      go_ret
      exact ⟨A', c', L', rfl, Ro1.out, by have := Sm.out; rwa [List.take_of_length_le (Nat.le_of_eq Hll.out)] at this, Hb.out⟩
end Go.Proofs.YtlecglmiigdjlaaGreatDoor
namespace Go.Proofs.YtlecglmiigdjlaaGreatDoor
set_option linter.unusedVariables false
set_option linter.unusedSimpArgs false
theorem okE_shift {ix tm : Int} {k : Nat} {e : En} : okE ix tm (k + 1) e = okE (ix + 1) tm k e := by
  have : decide (e.a - ((k + 1 : Nat) : Int) - 1 = ix) = decide (e.a - (k : Int) - 1 = ix + 1) := by
    apply decide_eq_decide.2
    constructor <;> intro h <;> push_cast at * <;> omega
  unfold okE
  rw [this]
theorem rgt_shift {ix : Int} {l : List En} : ∀ {tm : Int} {k : Nat}, rgt ix tm (k + 1) l = rgt (ix + 1) tm k l := by
  induction l with
  | nil => intro tm k; rfl
  | cons e l ih =>
    intro tm k
    rw [rgt, rgt, okE_shift, ih]
/-- The term ahead of the m-th entry. -/
def trm (tm : Int) (l : List En) : Nat → Int
  | 0 => tm
  | m + 1 => (l[m]?.map (·.b)).getD 0
theorem rgt_drop {l : List En} : ∀ {ix tm : Int} (m : Nat), rgt ix tm 0 l = true → m ≤ l.length → rgt (ix + m) (trm tm l m) 0 (l.drop m) = true := by
  induction l with
  | nil =>
    intro ix tm m h hm
    simp [rgt]
  | cons e l ih =>
    intro ix tm m h hm
    cases m with
    | zero => simpa [trm] using h
    | succ m =>
      rw [rgt, Bool.and_eq_true, Nat.zero_add, show (1 : Nat) = 0 + 1 from rfl, rgt_shift] at h
      have := ih m h.2 (by simpa using hm)
      rw [List.drop_succ_cons, show ix + ((m + 1 : Nat) : Int) = ix + 1 + m by push_cast; omega]
      cases m with
      | zero => simpa [trm] using this
      | succ m => simpa [trm] using this
theorem lmay_drop {b t ix : Int} {l : List En} {m : Nat} (h : lmay b t l = true) (hm : m ≤ l.length) (hx : ix = b + m) : termL b t l ix = (0, trm t l m) ∧ lmay ix (trm t l m) (l.drop m) = true ∧ lstA ix (l.drop m) = lstA b l ∧ lstB (trm t l m) (l.drop m) = lstB t l := by
  have hl := lmay_last h
  obtain ⟨h1, h2, h3⟩ := lmay_iff.1 h
  have ht : termL b t l ix = (0, trm t l m) := by
    unfold termL
    rw [if_neg (by omega), if_neg (by omega)]
    cases m with
    | zero => rw [if_pos (by simpa using hx)]; rfl
    | succ m =>
      rw [if_neg (by omega)]
      have e1 : (ix - b - 1).toNat = m := by omega
      rw [e1]
      rfl
  have hm2 : lmay ix (trm t l m) (l.drop m) = true := by
    refine lmay_iff.2 ⟨?_, by simp; omega, by rw [hx]; exact rgt_drop m h3 hm⟩
    cases m with
    | zero =>
      rw [show ix = b by simpa using hx]
      exact h1
    | succ m =>
      right
      have he := List.getElem?_eq_getElem (l := l) (i := m) (by omega)
      have := lmay_at h he
      simp only [trm, he, Option.map_some, Option.getD_some]
      omega
  refine ⟨ht, hm2, ?_, ?_⟩
  · rw [lmay_last hm2, hl, List.length_drop]
    omega
  · by_cases hml : m = l.length
    · subst hml
      rw [List.drop_length]
      cases hll : l.length with
      | zero => rw [List.eq_nil_of_length_eq_zero hll]; rfl
      | succ k =>
        obtain ⟨e, he, _, hb⟩ := lstA_len (b := b) (l := l) (by omega)
        rw [hb t]
        have : l.length - 1 = k := by omega
        rw [this] at he
        simp [lstB, trm, he]
    · obtain ⟨e, he, _, hb⟩ := lstA_len (b := b) (l := l) (by omega)
      obtain ⟨e', he', _, hb'⟩ := lstA_len (b := b) (l := l.drop m) (by simp; omega)
      rw [hb t, hb' _]
      rw [List.getElem?_drop, List.length_drop, show m + (l.length - m - 1) = l.length - 1 by omega, he] at he'
      rw [Option.some.inj he']
/-- Within what is left each index has the same term. -/
theorem termL_drop {b t ix i : Int} {l : List En} {m : Nat} (h : lmay b t l = true) (hm : m ≤ l.length) (hx : ix = b + m) (h1 : ix ≤ i) (h2 : i ≤ lstA b l) : ∃ v, termL b t l i = (0, v) ∧ termL ix (trm t l m) (l.drop m) i = (0, v) := by
  obtain ⟨e1, e2, e3, e4⟩ := lmay_drop h hm hx
  have hl := lmay_last h
  obtain ⟨h3, h4, h5⟩ := lmay_iff.1 h
  obtain ⟨k, hk⟩ : ∃ k : Nat, i = b + k := ⟨(i - b).toNat, by omega⟩
  refine ⟨trm t l k, (lmay_drop h (by omega) hk).1, ?_⟩
  have := (lmay_drop (ix := i) (m := k - m) e2 (by simp; omega) (by omega)).1
  rw [this]
  congr 1
  obtain ⟨d, rfl⟩ : ∃ d, k = m + d := ⟨k - m, by omega⟩
  cases d with
  | zero => simp [trm]
  | succ d =>
    rw [show m + (d + 1) - m = d + 1 by omega]
    show ((l.drop m)[d]?.map (·.b)).getD 0 = (l[m + d]?.map (·.b)).getD 0
    rw [List.getElem?_drop]
end Go.Proofs.YtlecglmiigdjlaaGreatDoor
namespace Go.Proofs.YtlecglmiigdjlaaGreatDoor
open Go.RowKit
set_option maxRecDepth 100000
set_option linter.unusedVariables false
set_option linter.unusedSimpArgs false
def DatB (w : World) (B : Nat) (l : List Er) : Prop := ∀ y ∈ l, Rd w (B ≤ ·) 1 y.A y.n (bs y.d) ∧ y.n ≤ y.m ∧ y.m ≤ maxLen
theorem DatB.dat {w : World} {B : Nat} {l : List Er} (h : DatB w B l) : Dat w l := fun y hy => ⟨(h y hy).1.any, (h y hy).2⟩
theorem DatB.set {w : World} {B : Nat} {l : List Er} (h : DatB w B l) {p : Addr} (hp : ¬ B ≤ p.block) (v : Value) : DatB (w.setCell p v) B l := fun y hy => ⟨(h y hy).1.setCell hp v, (h y hy).2⟩
theorem DatB.mono {w : World} {B B' : Nat} {l : List Er} (h : DatB w B l) (hB : B' ≤ B) : DatB w B' l := fun y hy => ⟨(h y hy).1.mono fun b hb => Nat.le_trans hB hb, (h y hy).2⟩
theorem DatB.below {w w' : World} {B : Nat} {l : List Er} (h : DatB w B l) (hb : Below w.heap.size w w') : DatB w' B l := fun y hy => ⟨(h y hy).1.below hb, (h y hy).2⟩
theorem own_mono {w : World} {B B' e size n c m : Nat} {A : Option Addr} {xs : List Value} (h : w.ownsRow B e size (.slice A n c) m xs) (hb : B' ≤ B) : w.ownsRow B' e size (.slice A n c) m xs := by
  refine ⟨h.1, ?_⟩
  rcases h.2 with hn | ⟨g, cap, cur, hv, hB, rest⟩
  · exact .inl hn
  · exact .inr ⟨g, cap, cur, hv, Nat.le_trans hb hB, rest⟩
theorem Ro.far {W : World} {B n c : Nat} {A : Option Addr} {l : List Er} (h : Ro W B A n c l) {p : Addr} (hp : p.block < B) (v : Value) : Ro (W.setCell p v) B A n c l := by
  have hg : W.grownBy (W.setCell p v) (some p.block) := ⟨rfl, rfl, rfl, by simp [World.setCell], fun k _ hk => Below.heap_setCell _ _ _ k (fun e => hk (by rw [e]))⟩
  refine ⟨h.ow.kept hg ?_, fun y hy => ⟨(h.dt y hy).1.setCell (fun q => by have := q.1; omega) v, (h.dt y hy).2⟩⟩
  rcases A with _ | a
  · exact .inl rfl
  · right
    intro e
    have := (own_lt h.ow a.block rfl).1
    have e' : some a.block = some p.block := e
    injection e' with e'
    omega
theorem Ro.datB {W : World} {B B0 n c : Nat} {A : Option Addr} {l : List Er} (h : Ro W B A n c l) (hB : B0 ≤ B) : DatB W B0 l := fun y hy => ⟨(h.dt y hy).1.mono fun b hb => Nat.le_trans hB hb.1, (h.dt y hy).2⟩
def CompPost (W : World) (b t ix : Int) (n : Nat) (L : List Er) (r : Int × Int) (e : Ending) (w' : World) : Prop :=
  if r.1 = 0 then ∃ A c L' m, e = .returned (.tuple #[.agg #[.int .i64 ix, .int .i64 r.2, .slice A (n - m) c], .nilIface]) ∧ m ≤ n ∧ ix = b + m ∧ Rd w' (W.heap.size ≤ ·) 4 A (n - m) (flat ecell L') ∧ DatB w' W.heap.size L' ∧ L'.map en = (L.map en).drop m ∧ (n - m ≤ c ∧ c ≤ maxLen) ∧ Below W.heap.size W w'
  else e = .returned (.tuple #[.agg #[.int .i64 0, .int .i64 0, .slice none 0 0], errC r.1]) ∧ Below W.heap.size W w'
set_option maxHeartbeats 1600000 in
theorem comp_any (b t ix : Int) (A : Option Addr) (n c : Nat) (L : List Er) (w : World) (hr : Rd w T 4 A n (flat ecell L)) (hd : Dat w L) (hw : Wel L) (hs : ∀ x ∈ L, x.n ≤ 1000000) (hm : lmay b t (L.map en) = true) (hn : n ≤ 1000000) (hnc : n ≤ c) (hcm : c ≤ maxLen) :
    Calls Tryz.prog 70 #[.agg #[.int .i64 b, .int .i64 t, .slice A n c], .int .i64 ix] w (CompPost w b t ix n L (termL b t (L.map en) ix)) := by
  have hr' := hr.lt (by omega)
  have hll := hr.flen ecell_len (by omega)
  have hlast := lmay_last hm
  rw [List.length_map, hll] at hlast
  have hbb := (lmay_iff.1 hm).1
  obtain ⟨W0, hW0⟩ : ∃ W0, W0 = (w.alloc (.cells #[.int .i64 b, .int .i64 t, .slice A n c] 31)).alloc (.cells #[.int .i64 0, .int .i64 0, .slice none 0 0] 31) := ⟨_, rfl⟩
  have b0 : Bx W0 w.heap.size #[.int .i64 b, .int .i64 t, .slice A n c] := by subst hW0; exact (Bx.new _ _ _ rfl).alloc _
  have F0 : Fr W0 (w.heap.size + 1) 3 W0 := by subst hW0; exact Fr.new (by simp) rfl
  have r0 : Rd W0 (· < w.heap.size) 4 A n (flat ecell L) := by subst hW0; exact ((hr'.mono fun b hb => hb.2).alloc _).alloc _
  have d0 : ∀ x ∈ L, Rd W0 (· < w.heap.size) 1 x.A x.n (bs x.d) ∧ x.n ≤ x.m ∧ x.m ≤ maxLen := by
    subst hW0
    exact fun x hx => ⟨(((((hd x hx).1.lt (by omega)).mono fun b hb => hb.2).alloc _).alloc _), (hd x hx).2⟩
  have hbe : Below w.heap.size w W0 := by subst hW0; exact ((Below.refl _ _).alloc (Nat.le_refl _) _).alloc (by simp) _
  have hz : W0.heap.size = w.heap.size + 2 := by subst hW0; simp
  have u0 : W0.cell? ⟨w.heap.size, 0, none⟩ = some (.int .i64 b) := b0.c 0
  have u1 : W0.cell? ⟨w.heap.size, 1, none⟩ = some (.int .i64 t) := b0.c 1
  have u2 : W0.cell? ⟨w.heap.size, 2, none⟩ = some (.slice A n c) := b0.c 2
  have sof : ∀ W, Fr W0 (w.heap.size + 1) 3 W → (Fr W0 (w.heap.size + 1) 3 W ∧ W.cell? ⟨w.heap.size, 0, none⟩ = some (.int .i64 b) ∧ W.cell? ⟨w.heap.size, 1, none⟩ = some (.int .i64 t) ∧ W.cell? ⟨w.heap.size, 2, none⟩ = some (.slice A n c) ∧ W.cell? ⟨w.heap.size + 1, 0, none⟩ = some (peek W (w.heap.size + 1) 0) ∧ W.cell? ⟨w.heap.size + 1, 1, none⟩ = some (peek W (w.heap.size + 1) 1) ∧ W.cell? ⟨w.heap.size + 1, 2, none⟩ = some (peek W (w.heap.size + 1) 2) ∧ W.frozen? ⟨w.heap.size + 1, 0, none⟩ = false ∧ W.frozen? ⟨w.heap.size + 1, 1, none⟩ = false ∧ W.frozen? ⟨w.heap.size + 1, 2, none⟩ = false) :=
    fun W F2 => ⟨F2, F2.cell (by omega) u0, F2.cell (by omega) u1, F2.cell (by omega) u2, F2.pk (by omega), F2.pk (by omega), F2.pk (by omega), F2.fz _, F2.fz _, F2.fz _⟩
  have hmm := fun W (h : Fr W0 (w.heap.size + 1) 3 W) => may_any b t A n c L W (h.rd r0 (by omega)) hw (by omega)
  have hlt := fun W (h : Fr W0 (w.heap.size + 1) 3 W) => term_any b t ix A n c L W (h.rd r0 (by omega)) hm (by omega)
  rw [hm] at hmm
  obtain ⟨r, hrr⟩ : ∃ r, termL b t (L.map en) ix = r := ⟨_, rfl⟩
  rw [hrr] at hlt ⊢
  have Hmm := Lib.hid hmm
  have Hlt := Lib.hid hlt
  have HW := Lib.hid hW0
  have s0 := sof _ F0
  have Hz := Lib.hid hz
  by_cases h0 : r.1 = 0
  · have hin : b ≤ ix ∧ ix ≤ b + n := by
      unfold termL at hrr
      rw [hlast] at hrr
      split at hrr
      · rw [← hrr] at h0; cases h0
      · split at hrr
        · rw [← hrr] at h0; cases h0
        · omega
    obtain ⟨m, hmx⟩ : ∃ m : Nat, ix = b + m := ⟨(ix - b).toNat, by omega⟩
    have hmn : m ≤ n := by omega
    have wv : IntKind.i64.wrap (ix - b) = (m : Int) := by rw [IntKind.wrap_i64]; omega
    have hmc : maxLen = 9223372036854775807 := by decide
    have hsl : ∀ W, (Instr.sliceAt 29 (.slice A n c) (some (.int .i64 (m : Int))) none none).run Tryz.prog W = .ok (.slice (if c = m then A else A.map (·.add (m * 4))) (n - m) (c - m)) W := fun W => run_slice_lo (P := Tryz.prog) 29 Tryz.underlying29 (size := 4) (by kernel_rfl) A n c W m hmn
    have hrs : Rd W0 (· < w.heap.size) 4 (if c = m then A else A.map (·.add (m * 4))) (n - m) (flat ecell (L.drop m)) := by
      have := r0.sub (l := m) (k := n - m) (m := c) (by omega) (by omega)
      rw [← flat_drop ecell_len, List.take_of_length_le (by rw [flat_length ecell_len]; simp; omega)] at this
      exact this
    generalize (if c = m then A else A.map (·.add (m * 4))) = A5 at hsl hrs
    have how : ∀ W, Fr W0 (w.heap.size + 1) 3 W → Calls Tryz.prog 104 #[.slice A5 (n - m) (c - m)] W (fun e w' => ∃ A' c' L', e = .returned (.slice A' (n - m) c') ∧ Ro w' W.heap.size A' (n - m) c' L' ∧ Same (L.drop m) L' ∧ Below W.heap.size W w' ∧ W0.heap.size ≤ W.heap.size) := fun W h => (owns_any A5 (n - m) (c - m) (L.drop m) W (h.rd hrs (by omega)) (fun x hx => ⟨(h.rd (d0 x (List.mem_of_mem_drop hx)).1 (by omega)).any, (d0 x (List.mem_of_mem_drop hx)).2⟩) (fun x hx => hs x (List.mem_of_mem_drop hx)) (by omega)).mono fun e w' ⟨A', c', L', h1, h2, h3, h4⟩ => ⟨A', c', L', h1, h2, h3, h4, h.gr.size⟩
    have How := Lib.hid how
    have Hwv := Lib.hid (And.intro hmn hmx)
    have Hrr := Lib.hid hrr
    clear hW0 b0 u0 u1 u2 hr hr' hz r0 d0 hmm hlt how hd hs hw hm hrs hin hlast hbb hmx hmn hcm hmc hrr hll
    obtain ⟨r1, r2⟩ := r
    dsimp only at h0
    subst h0
    go_enter Tryz.func70, Tryz.ntmps70
    go_wp2_with fail
    rw [← HW.out]
    refine (Hmm.out _ F0).mono ?_
    rintro e w1 ⟨rfl, hb1⟩
    have F1 := F0.below hb1
    have s1 := sof _ F1
    go_split_ands
    go_wp2_with fail
    refine (Hlt.out _ F1).mono ?_
    rintro e w2 ⟨rfl, hb2⟩
    have F2 := F1.below hb2
    have s2 := sof _ F2
    go_split_ands
    have ec : errC 0 = .nilIface := rfl
    go_wp2_with fail
    refine (How.out _ (by assumption)).mono ?_
    rintro e w4 ⟨A4, c4, L4, rfl, ro4, sm4, hb4, z4⟩
    have F4 : Fr W0 (w.heap.size + 1) 3 w4 := Fr.below (by assumption) hb4
    have s4 := sof _ F4
    go_split_ands
    go_wp2_with fail
    have q0 : w4.cell? ⟨w.heap.size + 1, 0, none⟩ = some (peek w4 (w.heap.size + 1) 0) := F4.pk (by omega)
    have q1 : w4.cell? ⟨w.heap.size + 1, 1, none⟩ = some (peek w4 (w.heap.size + 1) 1) := F4.pk (by omega)
    have q2 : w4.cell? ⟨w.heap.size + 1, 2, none⟩ = some (peek w4 (w.heap.size + 1) 2) := F4.pk (by omega)
    have FF := Fr.set (Fr.set (Fr.set F4 0 (.int .i64 ix)) 1 (.int .i64 r2)) 2 (.slice A4 (n - m) c4)
    have hz := Hz.out
    refine bodyPost_ret (by simp [results, Tryz.results70, go_sem, q0, q1, q2]; rfl) rfl ?_
    have hcap := own_cap ro4.ow
    unfold CompPost
    rw [if_pos rfl]
    have rF := ((ro4.far (p := ⟨w.heap.size + 1, 0, none⟩) (by simp; omega) (.int .i64 ix)).far (p := ⟨w.heap.size + 1, 1, none⟩) (by simp; omega) (.int .i64 r2)).far (p := ⟨w.heap.size + 1, 2, none⟩) (by simp; omega) (.slice A4 (n - m) c4)
    refine ⟨A4, c4, L4, m, rfl, Hwv.out.1, Hwv.out.2, (Rd.of_own rF.ow).mono fun q hq => by omega, rF.datB (by omega), ?_, hcap, hbe.trans (FF.to_below (B := w.heap.size) (by omega))⟩
    rw [sm4, List.map_drop]
  · have hek : errC r.1 = .iface 69 (.int .i64 r.1) := if_neg h0
    have hp : ∀ e w', (e = .returned (.tuple #[.agg #[.int .i64 0, .int .i64 0, .slice none 0 0], errC r.1]) ∧ Below w.heap.size w w') → CompPost w b t ix n L r e w' := fun e w' h => by unfold CompPost; rw [if_neg h0]; exact h
    have Hp := Lib.hid hp
    clear hW0 b0 u0 u1 u2 hr hr' hz r0 d0 hmm hlt hd hs hw hm hlast hbb hrr hll hp
    go_enter Tryz.func70, Tryz.ntmps70
    go_wp2_with fail
    rw [← HW.out]
    refine (Hmm.out _ F0).mono ?_
    rintro e w1 ⟨rfl, hb1⟩
    have F1 := F0.below hb1
    have s1 := sof _ F1
    go_split_ands
    go_wp2_with fail
    refine (Hlt.out _ F1).mono ?_
    rintro e w2 ⟨rfl, hb2⟩
    have F2 := F1.below hb2
    have s2 := sof _ F2
    go_split_ands
    rw [hek]
    go_wp2_with fail
    have q0 : w2.cell? ⟨w.heap.size + 1, 0, none⟩ = some (peek w2 (w.heap.size + 1) 0) := F2.pk (by omega)
    have q1 : w2.cell? ⟨w.heap.size + 1, 1, none⟩ = some (peek w2 (w.heap.size + 1) 1) := F2.pk (by omega)
    have q2 : w2.cell? ⟨w.heap.size + 1, 2, none⟩ = some (peek w2 (w.heap.size + 1) 2) := F2.pk (by omega)
    have FF := Fr.set (Fr.set (Fr.set F2 0 (.int .i64 0)) 1 (.int .i64 0)) 2 (.slice none 0 0)
    have hz := Hz.out
    refine bodyPost_ret (by simp [results, Tryz.results70, go_sem, q0, q1, q2]; rfl) rfl ?_
    exact Hp.out _ _ ⟨by rw [hek], hbe.trans (FF.to_below (B := w.heap.size) (by omega))⟩
def compL (b t : Int) (l : List En) (ix : Int) : Int × Int := if lmay b t l then termL b t l ix else (1, 0)
theorem compL_yes {b t ix : Int} {l : List En} (h : lmay b t l = true) : compL b t l ix = termL b t l ix := if_pos h
theorem compL_no {b t ix : Int} {l : List En} (h : lmay b t l = false) : compL b t l ix = (1, 0) := by unfold compL; rw [h]; rfl
theorem compA_any (b t ix : Int) (A : Option Addr) (n c : Nat) (L : List Er) (w : World) (hr : Rd w T 4 A n (flat ecell L)) (hd : Dat w L) (hw : Wel L) (hs : ∀ x ∈ L, x.n ≤ 1000000) (hn : n ≤ 1000000) (hnc : n ≤ c) (hcm : c ≤ maxLen) :
    Calls Tryz.prog 70 #[.agg #[.int .i64 b, .int .i64 t, .slice A n c], .int .i64 ix] w (CompPost w b t ix n L (compL b t (L.map en) ix)) := by
  by_cases hm : lmay b t (L.map en) = true
  · rw [compL_yes hm]
    exact comp_any b t ix A n c L w hr hd hw hs hm hn hnc hcm
  · rw [Bool.not_eq_true] at hm
    rw [compL_no hm]
    obtain ⟨W0, hW0⟩ : ∃ W0, W0 = (w.alloc (.cells #[.int .i64 b, .int .i64 t, .slice A n c] 31)).alloc (.cells #[.int .i64 0, .int .i64 0, .slice none 0 0] 31) := ⟨_, rfl⟩
    have F0 : Fr W0 (w.heap.size + 1) 3 W0 := by subst hW0; exact Fr.new (by simp) rfl
    have hbe : Below w.heap.size w W0 := by subst hW0; exact ((Below.refl _ _).alloc (Nat.le_refl _) _).alloc (by simp) _
    have r0 : Rd W0 T 4 A n (flat ecell L) := hr.below hbe
    have hmm := may_any b t A n c L W0 r0 hw hn
    rw [hm] at hmm
    have hp : ∀ e w', (e = .returned (.tuple #[.agg #[.int .i64 0, .int .i64 0, .slice none 0 0], errC 1]) ∧ Below w.heap.size w w') → CompPost w b t ix n L (1, 0) e w' := fun e w' h => by unfold CompPost; rw [if_neg (by decide)]; exact h
    have Hp := Lib.hid hp
    have Hmm := Lib.hid hmm
    have HW := Lib.hid hW0
    have he1 : errC 1 = .iface 69 (.int .i64 1) := rfl
    have He1 := Lib.hid he1
    clear hW0 hr hd hw hs hm hp hmm r0 hnc hcm he1
    go_enter Tryz.func70, Tryz.ntmps70
    go_wp2_with fail
    rw [← HW.out]
    refine Hmm.out.mono ?_
    rintro e w2 ⟨rfl, hb2⟩
    have F2 := F0.below hb2
    have q0 : w2.cell? ⟨w.heap.size + 1, 0, none⟩ = some (peek w2 (w.heap.size + 1) 0) := F2.pk (by omega)
    have q1 : w2.cell? ⟨w.heap.size + 1, 1, none⟩ = some (peek w2 (w.heap.size + 1) 1) := F2.pk (by omega)
    have q2 : w2.cell? ⟨w.heap.size + 1, 2, none⟩ = some (peek w2 (w.heap.size + 1) 2) := F2.pk (by omega)
    have g0 : w2.frozen? ⟨w.heap.size + 1, 0, none⟩ = false := F2.fz _
    have g1 : w2.frozen? ⟨w.heap.size + 1, 1, none⟩ = false := F2.fz _
    have g2 : w2.frozen? ⟨w.heap.size + 1, 2, none⟩ = false := F2.fz _
    go_wp2_with fail
    have FF := Fr.set (Fr.set (Fr.set F2 0 (.int .i64 0)) 1 (.int .i64 0)) 2 (.slice none 0 0)
    refine bodyPost_ret (by simp [results, Tryz.results70, go_sem, q0, q1, q2]; rfl) rfl ?_
    exact Hp.out _ _ ⟨by rw [He1.out], hbe.trans (FF.to_below (B := w.heap.size) (by omega))⟩
end Go.Proofs.YtlecglmiigdjlaaGreatDoor
