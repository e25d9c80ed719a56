/- Plain law of a keeper: what is laid down is what is found again: no program in sight.
   Plain law of a keeper: laying down, also when the power goes: no program in sight.
   Plain law of a keeper: a blank disk, how long a record is, a save.
   Plain law of a keeper: the first record; what opening a blank disk, or one that was saved to, comes to. -/
import Derived.Test.YtlecglmiigdjlaaGreatDoorZb26
namespace Go.Proofs.YtlecglmiigdjlaaGreatDoor
set_option linter.unusedVariables false
set_option linter.unusedSimpArgs false
theorem recs_off {l c : List UInt8} {fr e q a : Nat} {rs : List (List UInt8)} (h : recs l fr e = (rs, q, false)) (hfe : fr ≤ e) (hd : a + c.length ≤ fr ∨ e ≤ a) (hl : a + c.length ≤ l.length) : recs (splice l a c) fr e = (rs, q, false) := by
  have h1 : (recs l fr e).2.2 = false := by rw [h]
  have h2 := recs_last h1
  have hp : (recs l fr e).2.1 = q := by rw [h]
  have hq : q ≤ e := by have := (recs_le l fr e).2.1 hfe; rw [hp] at this; exact this
  have hq2 : fr ≤ q := by have := (recs_le l fr e).1; rw [hp] at this; exact this
  rw [← h]
  apply recs_same h1
  · intro i hi hi2
    rw [hp] at hi2
    exact splice_off (by omega) (by omega)
  · rw [hp] at h2 ⊢
    rcases h2 with h2 | h2
    · by_cases h5 : e < q + 5
      · exact .inr h5
      · left
        rw [mkAt_eq (l := l) (splice_off (by omega) (by omega)), h2]
    · exact .inr h2
def frO (sz : Nat) (o : Bool) : Nat := if o = true then sz / 2 else 0
def enO (sz : Nat) (o : Bool) : Nat := if o = true then sz else sz / 2
theorem frO_apart {sz : Nat} (o : Bool) (x y : Nat) (hx : frO sz (!o) ≤ x) (hy : y ≤ enO sz (!o)) (hxy : x ≤ y) : y ≤ frO sz o ∨ enO sz o ≤ x := by
  cases o
  · simp [frO, enO] at *; omega
  · simp [frO, enO] at *; omega
theorem frO_le (sz : Nat) (o : Bool) : frO sz o ≤ enO sz o ∧ enO sz o ≤ sz := by cases o <;> simp [frO, enO] <;> omega
theorem put_tape (K : Kp) (o : Bool) (t : Tp) : (K.put o t).tape o = t := by cases o <;> rfl
theorem put_other (K : Kp) (o : Bool) (t : Tp) : (K.put o t).tape (!o) = K.tape (!o) := by cases o <;> rfl
theorem put_rest (K : Kp) (o : Bool) (t : Tp) : (K.put o t).w0 = K.w0 ∧ (K.put o t).w1 = K.w1 ∧ (K.put o t).on = K.on ∧ (K.put o t).n = K.n ∧ (K.put o t).now = K.now ∧ (K.put o t).dead = K.dead := by cases o <;> exact ⟨rfl, rfl, rfl, rfl, rfl, rfl⟩
/-- One tape's area: its records, and where they end. -/
structure ArI (sz : Nat) (t : Tp) (D : Dk) (o : Bool) (r : List (List UInt8)) : Prop where
  rc : recs D.now (frO sz o) (enO sz o) = (r, t.p, false)
  n : t.n = r.length
  dead : t.dead = 0
  fr : t.fr = frO sz o
  en : t.en = enO sz o
/-- The tape that counts ends in what counts. -/
def CurI (K : Kp) (r : List (List UInt8)) : Prop := (K.n = 0 ∧ r = []) ∨ (1 ≤ K.n ∧ K.now.may = true ∧ K.now.sn.length ≤ 1048576 ∧ ∃ l, r = l ++ [stL (K.n : Nat) K.now])
def OthI (K : Kp) (r : List (List UInt8)) : Prop := r = [] ∨ ∃ l b x, r = l ++ [b] ∧ stD b = some x ∧ x.1 < K.n
structure KInv (sz : Nat) (K : Kp) (D : Dk) : Prop where
  calm : D.Calm sz
  w0 : K.w0 = ((sz / 2 : Nat) : Int) - 5
  w1 : K.w1 = ((sz - sz / 2 : Nat) : Int) - 5
  dead : K.dead = 0
  ar : ∃ rc ro, ArI sz (K.tape K.on) D K.on rc ∧ ArI sz (K.tape (!K.on)) D (!K.on) ro ∧ CurI K rc ∧ OthI K ro
  n0 : K.n = 0 → K.on = false ∧ K.now = St0 []
  nb : K.n ≤ 1000000000
section
variable {sz : Nat} {K : Kp} {D D' : Dk} {t : Tp} {o : Bool} {r : List (List UInt8)}
theorem ArI.off (h : ArI sz t D o r) {a : Nat} {c : List UInt8} (hD : D.Calm sz) (he : D'.now = splice D.now a c) (hx : frO sz (!o) ≤ a) (hy : a + c.length ≤ enO sz (!o)) : ArI sz t D' o r := by
  refine ⟨?_, h.n, h.dead, h.fr, h.en⟩
  have h1 := frO_le sz o
  have h2 := frO_le sz (!o)
  rw [he]
  refine recs_off h.rc h1.1 (frO_apart o a (a + c.length) hx hy (by omega)) ?_
  rw [hD.wrote_len]
  omega
theorem lastR_snoc (l : List (List UInt8)) (b : List UInt8) : lastR (l ++ [b]) = b := by
  unfold lastR
  simp
theorem Tp.eta (t : Tp) {a b c d : Nat} {e : Int} (h1 : t.en = a) (h2 : t.fr = b) (h3 : t.p = c) (h4 : t.n = d) (h5 : t.dead = e) : (⟨a, b, c, d, e⟩ : Tp) = t := by
  cases t
  dsimp only at *
  rw [h1, h2, h3, h4, h5]
/-- What is found again is what was laid down. -/
theorem KInv.open_ (h : KInv sz K D) : openS sz D = some K := by
  obtain ⟨rc, ro, hc, ho, hcu, hot⟩ := h.ar
  have hn := h.nb
  cases hon : K.on
  · rw [hon] at hc ho
    have a0 : recs D.now 0 (sz / 2) = (rc, K.t0.p, false) := hc.rc
    have a1 : recs D.now (sz / 2) sz = (ro, K.t1.p, false) := ho.rc
    have t0 : (⟨sz / 2, 0, K.t0.p, rc.length, 0⟩ : Tp) = K.t0 := Tp.eta _ hc.en hc.fr rfl hc.n hc.dead
    have t1 : (⟨sz, sz / 2, K.t1.p, ro.length, 0⟩ : Tp) = K.t1 := Tp.eta _ ho.en ho.fr rfl ho.n ho.dead
    have e1 : kpOf sz D = { K with on := false, n := 0, now := St0 [] } := by
      unfold kpOf
      rw [a0, a1, t0, t1, ← h.w0, ← h.w1, ← h.dead]
    unfold openS
    rw [a0, a1, if_neg (by simp), e1]
    unfold chooseS
    have hn1 : K.t0.n = rc.length := hc.n
    have hn2 : K.t1.n = ro.length := ho.n
    have s1 : stepC { K with on := false, n := 0, now := St0 [] } false (lastR rc) = some K := by
      unfold stepC
      rcases hcu with ⟨h0, rfl⟩ | ⟨h0, hm, hs, l, rfl⟩
      · rw [if_pos (show (if (false : Bool) = true then K.t1.n else K.t0.n) = 0 by rw [if_neg (by decide), hn1]; rfl)]
        obtain ⟨_, k2⟩ := h.n0 h0
        rw [← hon, ← k2, ← h0]
      · rw [if_neg (show ¬ (if (false : Bool) = true then K.t1.n else K.t0.n) = 0 by rw [if_neg (by decide), hn1]; simp), lastR_snoc, stD_lay hm (by omega) (by omega) hs]
        show some (if (0 : Nat) < (((K.n : Nat) : Int).toNat) then _ else _) = _
        rw [if_pos (by omega)]
        show some { K with n := ((K.n : Nat) : Int).toNat, now := K.now, on := false } = some K
        rw [Int.toNat_natCast, ← hon]
    rw [s1]
    show stepC K true (lastR ro) = some K
    unfold stepC
    rcases hot with rfl | ⟨l, b, x, rfl, hx, hlt⟩
    · rw [if_pos (show (if (true : Bool) = true then K.t1.n else K.t0.n) = 0 by rw [if_pos rfl, hn2]; rfl)]
    · rw [if_neg (show ¬ (if (true : Bool) = true then K.t1.n else K.t0.n) = 0 by rw [if_pos rfl, hn2]; simp), lastR_snoc, hx]
      show some (if K.n < x.1 then _ else _) = _
      rw [if_neg (by omega)]
  · rw [hon] at hc ho
    have a0 : recs D.now 0 (sz / 2) = (ro, K.t0.p, false) := ho.rc
    have a1 : recs D.now (sz / 2) sz = (rc, K.t1.p, false) := hc.rc
    have t0 : (⟨sz / 2, 0, K.t0.p, ro.length, 0⟩ : Tp) = K.t0 := Tp.eta _ ho.en ho.fr rfl ho.n ho.dead
    have t1 : (⟨sz, sz / 2, K.t1.p, rc.length, 0⟩ : Tp) = K.t1 := Tp.eta _ hc.en hc.fr rfl hc.n hc.dead
    have e1 : kpOf sz D = { K with on := false, n := 0, now := St0 [] } := by
      unfold kpOf
      rw [a0, a1, t0, t1, ← h.w0, ← h.w1, ← h.dead]
    unfold openS
    rw [a0, a1, if_neg (by simp), e1]
    unfold chooseS
    have hn1 : K.t1.n = rc.length := hc.n
    have hn2 : K.t0.n = ro.length := ho.n
    have s1 : ∃ m nw, m < K.n ∧ stepC { K with on := false, n := 0, now := St0 [] } false (lastR ro) = some { K with on := false, n := m, now := nw } := by
      unfold stepC
      have hK1 : 1 ≤ K.n := by
        rcases hcu with ⟨h0, _⟩ | ⟨h0, _⟩
        · have := (h.n0 h0).1
          rw [hon] at this
          cases this
        · exact h0
      rcases hot with rfl | ⟨l, b, x, rfl, hx, hlt⟩
      · rw [if_pos (show (if (false : Bool) = true then K.t1.n else K.t0.n) = 0 by rw [if_neg (by decide), hn2]; rfl)]
        exact ⟨0, St0 [], hK1, rfl⟩
      · rw [if_neg (show ¬ (if (false : Bool) = true then K.t1.n else K.t0.n) = 0 by rw [if_neg (by decide), hn2]; simp), lastR_snoc, hx]
        by_cases hx0 : 0 < x.1
        · refine ⟨x.1, x.2, hlt, ?_⟩
          show some (if (0 : Nat) < x.1 then _ else _) = _
          rw [if_pos hx0]
        · refine ⟨0, St0 [], hK1, ?_⟩
          show some (if (0 : Nat) < x.1 then _ else _) = _
          rw [if_neg hx0]
    obtain ⟨m, nw, hmK, s1⟩ := s1
    rw [s1]
    show stepC { K with on := false, n := m, now := nw } true (lastR rc) = some K
    unfold stepC
    rcases hcu with ⟨h0, rfl⟩ | ⟨h0, hm, hs, l, rfl⟩
    · have := (h.n0 h0).1
      rw [hon] at this
      cases this
    · rw [if_neg (show ¬ (if (true : Bool) = true then K.t1.n else K.t0.n) = 0 by rw [if_pos rfl, hn1]; simp), lastR_snoc, stD_lay hm (by omega) (by omega) hs]
      show some (if m < (((K.n : Nat) : Int).toNat) then _ else _) = _
      rw [if_pos (by omega)]
      show some { K with n := ((K.n : Nat) : Int).toNat, now := K.now, on := true } = some K
      rw [Int.toNat_natCast, ← hon]
end
end Go.Proofs.YtlecglmiigdjlaaGreatDoor
namespace Go.Proofs.YtlecglmiigdjlaaGreatDoor
set_option linter.unusedVariables false
set_option linter.unusedSimpArgs false
section
variable {sz : Nat} {K : Kp} {D D' D2 : Dk} {t : Tp} {o : Bool} {r : List (List UInt8)} {s : St} {b d : List UInt8}
theorem KInv.tape (h : KInv sz K D) (o : Bool) : ∃ r, ArI sz (K.tape o) D o r ∧ (o = K.on → CurI K r) ∧ (o ≠ K.on → OthI K r) := by
  obtain ⟨rc, ro, hc, ho, hcu, hot⟩ := h.ar
  by_cases e : o = K.on
  · subst e
    exact ⟨rc, hc, fun _ => hcu, fun h => absurd rfl h⟩
  · have e2 : o = !K.on := by cases o <;> cases hk : K.on <;> simp_all
    subst e2
    exact ⟨ro, ho, fun h => absurd h e, fun _ => hot⟩
theorem KInv.of (h : KInv sz K D) (hD : D2.Calm sz) (ha : ∀ o r, ArI sz (K.tape o) D o r → ArI sz (K.tape o) D2 o r) : KInv sz K D2 := by
  obtain ⟨rc, ro, hc, ho, hcu, hot⟩ := h.ar
  exact ⟨hD, h.w0, h.w1, h.dead, ⟨rc, ro, ha _ _ hc, ha _ _ ho, hcu, hot⟩, h.n0, h.nb⟩
theorem ne_not {a b : Bool} (h : a ≠ b) : b = !a := by cases a <;> cases b <;> simp_all
/-- What lies behind a tape's end. -/
theorem KInv.part (h : KInv sz K D) (o : Bool) (hD : D2.Calm sz) (he : D2.now = splice D.now ((K.tape o).p + 1) d) (hf : (K.tape o).p + 1 + d.length ≤ enO sz o) : KInv sz K D2 := by
  refine h.of hD fun o' r hr => ?_
  by_cases e : o' = o
  · subst e
    refine ⟨?_, hr.n, hr.dead, hr.fr, hr.en⟩
    rw [he]
    exact recs_part hr.rc (by rw [h.calm.wrote_len]; have := (frO_le sz o').2; omega)
  · have e2 := ne_not (Ne.symm e)
    subst e2
    obtain ⟨r', hr', _⟩ := h.tape o
    have hp : frO sz o ≤ (K.tape o).p := by have := (recs_le D.now (frO sz o) (enO sz o)).1; rw [hr'.rc] at this; dsimp only at this; omega
    exact hr.off h.calm he (by rw [Bool.not_not]; omega) (by rw [Bool.not_not]; exact hf)
/-- A tape is let go that does not count. -/
theorem KInv.clear_ (h : KInv sz K D) (hD : D2.Calm sz) (he : D2.now = splice D.now (K.tape (!K.on)).fr [0]) (hsz : 20 ≤ sz) :
    KInv sz { K.put (!K.on) { K.tape (!K.on) with p := (K.tape (!K.on)).fr, n := 0 } with dead := 0 } D2 := by
  obtain ⟨rc, ro, hc, ho, hcu, hot⟩ := h.ar
  have hr := put_rest K (!K.on) { K.tape (!K.on) with p := (K.tape (!K.on)).fr, n := 0 }
  obtain ⟨q1, q2, q3, q4, q5, q6⟩ := hr
  have hfe : frO sz (!K.on) + 1 ≤ enO sz (!K.on) := by cases K.on <;> simp [frO, enO] <;> omega
  have hle := (frO_le sz (!K.on)).2
  rw [ho.fr] at he
  have t1 : Kp.tape { K.put (!K.on) { K.tape (!K.on) with p := (K.tape (!K.on)).fr, n := 0 } with dead := 0 } (!K.on) = { K.tape (!K.on) with p := (K.tape (!K.on)).fr, n := 0 } := put_tape K (!K.on) _
  have t2 : Kp.tape { K.put (!K.on) { K.tape (!K.on) with p := (K.tape (!K.on)).fr, n := 0 } with dead := 0 } K.on = K.tape K.on := by
    have := put_other K (!K.on) { K.tape (!K.on) with p := (K.tape (!K.on)).fr, n := 0 }
    rw [Bool.not_not] at this
    exact this
  refine ⟨hD, q1.trans h.w0, q2.trans h.w1, rfl, ?_, ?_, ?_⟩
  · show ∃ rc ro, ArI sz (Kp.tape _ (Kp.on (K.put (!K.on) _))) D2 (Kp.on (K.put (!K.on) _)) rc ∧ ArI sz (Kp.tape _ (!Kp.on (K.put (!K.on) _))) D2 (!Kp.on (K.put (!K.on) _)) ro ∧ _ ∧ _
    rw [q3, t1, t2]
    refine ⟨rc, [], hc.off h.calm he (Nat.le_refl _) (by simpa using hfe), ⟨?_, rfl, ho.dead, ho.fr, ho.en⟩, ?_, .inl rfl⟩
    · rw [he]
      show recs _ _ _ = ([], (K.tape (!K.on)).fr, false)
      rw [ho.fr]
      exact recs_cleared (by rw [h.calm.wrote_len]; omega)
    · unfold CurI at hcu ⊢
      dsimp only
      rw [q4, q5]
      exact hcu
  · show (K.put (!K.on) _).n = 0 → (K.put (!K.on) _).on = false ∧ (K.put (!K.on) _).now = St0 []
    rw [q3, q4, q5]
    exact h.n0
  · show (K.put (!K.on) _).n ≤ _
    rw [q4]
    exact h.nb
/-- A record more, on whichever tape. -/
theorem KInv.put_ (h : KInv sz K D) (o : Bool) (hD : D2.Calm sz) (hb : stL ((K.n : Nat) + 1 : Int) s = b) (hbl : b.length ≤ 1048576) (hf : (K.tape o).p + 5 + b.length ≤ enO sz o) (he : D2.now = splice D.now (K.tape o).p (1 :: (K.tape o).out b)) (hm : s.may = true) (hs : s.sn.length ≤ 1048576) (hn : K.n < 1000000000) :
    KInv sz { K.put o { K.tape o with p := (K.tape o).p + 5 + b.length, n := (K.tape o).n + 1 } with dead := 0, n := K.n + 1, now := s, on := o } D2 := by
  obtain ⟨r, hr, hcu, hot⟩ := h.tape o
  obtain ⟨r', hr', hcu', hot'⟩ := h.tape (!o)
  have hle := (frO_le sz o).2
  have hol := (K.tape o).out_len b
  have hp : frO sz o ≤ (K.tape o).p := by have := (recs_le D.now (frO sz o) (enO sz o)).1; rw [hr.rc] at this; exact Nat.le_trans (Nat.le_refl _) (by dsimp only at this; omega)
  obtain ⟨q1, q2, _⟩ := put_rest K o { K.tape o with p := (K.tape o).p + 5 + b.length, n := (K.tape o).n + 1 }
  refine ⟨hD, q1.trans h.w0, q2.trans h.w1, rfl, ⟨r ++ [b], r', ?_, ?_, ?_, ?_⟩, ?_, ?_⟩
  · show ArI sz (Kp.tape (K.put o _) o) D2 o (r ++ [b])
    rw [put_tape]
    refine ⟨?_, by show (K.tape o).n + 1 = _; rw [List.length_append, hr.n]; rfl, hr.dead, hr.fr, hr.en⟩
    rw [he]
    show recs _ _ _ = (r ++ [b], (K.tape o).p + 5 + b.length, false)
    have h1 := hr.rc
    rw [← hr.fr, ← hr.en] at h1 ⊢
    exact recs_put h1 hbl (by rw [hr.en]; exact hf) (by rw [h.calm.wrote_len, hr.en]; exact hle)
  · show ArI sz (Kp.tape (K.put o _) (!o)) D2 (!o) r'
    rw [put_other]
    refine hr'.off h.calm he (by rw [Bool.not_not]; exact hp) ?_
    rw [Bool.not_not, List.length_cons, hol]
    split
    · rename_i h5; rw [hr.en] at h5; omega
    · omega
  · right
    refine ⟨by show 1 ≤ K.n + 1; omega, hm, hs, r, ?_⟩
    show r ++ [b] = r ++ [stL ((K.n + 1 : Nat) : Int) s]
    rw [← hb]
    rfl
  · by_cases e : o = K.on
    · have e2 : (!o) ≠ K.on := by rw [← e]; cases o <;> decide
      rcases hot' e2 with h1 | ⟨l, b', x, h1, h2, h3⟩
      · exact .inl h1
      · exact .inr ⟨l, b', x, h1, h2, by show x.1 < K.n + 1; omega⟩
    · have e2 : (!o) = K.on := by rw [ne_not e]
      rcases hcu' e2 with ⟨h1, h2⟩ | ⟨h1, h2, h3, l, h4⟩
      · exact .inl h2
      · refine .inr ⟨l, _, _, h4, stD_lay h2 (by omega) (by omega) h3, ?_⟩
        show ((K.n : Nat) : Int).toNat < K.n + 1
        omega
  · intro h0
    exact absurd h0 (by show ¬ K.n + 1 = 0; omega)
  · show K.n + 1 ≤ _
    omega
/-- What is left when the power goes within a save. -/
structure Lost (sz : Nat) (K : Kp) (s : St) (D' : Dk) : Prop where
  ok : D'.Ok sz
  off : D'.off = true
  q : D'.q.length ≤ 1
  st : ∀ keep, ∃ K1, KInv sz K1 (D'.started keep) ∧ ((K1.n = K.n ∧ K1.now = K.now) ∨ (K1.n = K.n + 1 ∧ K1.now = s))
theorem room_iff (t : Tp) (n : Nat) : (n : Int) ≤ t.room ↔ t.p + 5 + n ≤ t.en := by
  unfold Tp.room
  split <;> omega
/-- A record laid on tape o, which has room. -/
theorem KInv.laid_ (h : KInv sz K D) (o : Bool) (hb : stL ((K.n : Nat) + 1 : Int) s = b) (hbl : b.length ≤ 1048576) (hf : (K.tape o).p + 5 + b.length ≤ enO sz o) (hm : s.may = true) (hs : s.sn.length ≤ 1048576) (hn : K.n < 1000000000) :
    (∃ K' D', K.laid o ((K.tape o).append D b) s = (K', D', 0) ∧ KInv sz K' D' ∧ K'.n = K.n + 1 ∧ K'.now = s ∧ (D.armed = 0 → D'.armed = 0)) ∨
    (D.armed ≠ 0 ∧ ∃ K' D', K.laid o ((K.tape o).append D b) s = (K', D', 13) ∧ K'.dead = 13 ∧ Lost sz K s D') := by
  obtain ⟨r, hr, _⟩ := h.tape o
  have hle := (frO_le sz o).2
  have hol := (K.tape o).out_len b
  rcases append_cases h.calm hr.dead hbl (by rw [hr.en]; exact hf) (by rw [hr.en]; exact hle) with ⟨D', h1, h2, h3, h4⟩ | ⟨ha, D', h1, h2⟩
  · left
    refine ⟨_, D', ?_, h.put_ o h2 hb hbl hf h3 hm hs hn, rfl, rfl, h4⟩
    rw [h1]
    unfold Kp.laid
    rw [if_pos rfl]
  · right
    refine ⟨ha, { K.put o { K.tape o with dead := 13 } with dead := 13 }, D', ?_, rfl, h2.ok, h2.off, h2.q, fun keep => ?_⟩
    · rw [h1]
      unfold Kp.laid
      rw [if_neg (by show ¬ (13 : Int) = 0; decide)]
    · have hcal := Dk.started_calm h2.ok keep
      rcases h2.st keep with ⟨k, hk, e⟩ | e
      · refine ⟨K, h.part o hcal e ?_, .inl ⟨rfl, rfl⟩⟩
        rw [List.length_take]
        have h5 : ((K.tape o).out b).length ≤ 4 + b.length + 1 := by rw [hol]; split <;> omega
        by_cases h6 : (K.tape o).p + 5 + b.length + 5 ≤ (K.tape o).en
        · rw [hr.en] at h6; omega
        · have h7 : ((K.tape o).out b).length = 4 + b.length := by rw [hol, if_neg h6, Nat.add_zero]
          omega
      · exact ⟨_, h.put_ o hcal hb hbl hf e hm hs hn, .inr ⟨rfl, rfl⟩⟩
/-- Whatever is laid down. -/
theorem KInv.lay_ (h : KInv sz K D) (hsz : 20 ≤ sz) (hb : stL ((K.n : Nat) + 1 : Int) s = b) (hbl : b.length ≤ 1048576) (hm : s.may = true) (hs : s.sn.length ≤ 1048576) (hn : K.n < 1000000000) :
    (K.lay D s = (K, D, 10) ∧ K.whole (!K.on) < (b.length : Int)) ∨
    (∃ K' D', K.lay D s = (K', D', 0) ∧ KInv sz K' D' ∧ K'.n = K.n + 1 ∧ K'.now = s ∧ (D.armed = 0 → D'.armed = 0)) ∨
    (D.armed ≠ 0 ∧ ∃ K' D', K.lay D s = (K', D', 13) ∧ K'.dead = 13 ∧ Lost sz K s D') := by
  obtain ⟨r, hr, _⟩ := h.tape K.on
  unfold Kp.lay
  rw [hb]
  by_cases h1 : (b.length : Int) ≤ (K.tape K.on).room
  · right
    rw [if_pos h1]
    exact h.laid_ K.on hb hbl (by rw [← hr.en]; exact (room_iff _ _).1 h1) hm hs hn
  · rw [if_neg h1]
    by_cases h2 : K.whole (!K.on) < (b.length : Int)
    · left
      rw [if_pos h2]
      exact ⟨rfl, h2⟩
    · right
      rw [if_neg h2]
      obtain ⟨ro, ho, _⟩ := h.tape (!K.on)
      have hw : K.whole (!K.on) = ((enO sz (!K.on) : Nat) : Int) - (frO sz (!K.on) : Nat) - 5 := by
        have := h.w0
        have := h.w1
        cases hk : K.on <;> simp [Kp.whole, frO, enO, *] <;> omega
      have hfit : frO sz (!K.on) + 5 + b.length ≤ enO sz (!K.on) := by omega
      have hle := (frO_le sz (!K.on)).2
      have hr0 : (K.put (!K.on) { K.tape (!K.on) with p := (K.tape (!K.on)).fr, n := 0 }).n = K.n := (put_rest _ _ _).2.2.2.1
      have hr1 : (K.put (!K.on) { K.tape (!K.on) with p := (K.tape (!K.on)).fr, n := 0 }).now = K.now := (put_rest _ _ _).2.2.2.2.1
      have tp : Kp.tape { K.put (!K.on) { K.tape (!K.on) with p := (K.tape (!K.on)).fr, n := 0 } with dead := 0 } (!K.on) = { K.tape (!K.on) with p := (K.tape (!K.on)).fr, n := 0 } := put_tape K (!K.on) _
      rcases reset_cases h.calm ho.dead (by rw [ho.fr]; omega) with ⟨D1, e1, e2, e3, e4⟩ | ⟨ha, D1, e1, e2⟩
      · have h' := h.clear_ e2 e3 hsz
        have hl := h'.laid_ (!K.on) (s := s) (b := b) (by show stL (((K.put (!K.on) _).n : Nat) + 1 : Int) s = b; rw [hr0]; exact hb) hbl (by rw [tp]; show (K.tape (!K.on)).fr + 5 + b.length ≤ _; rw [ho.fr]; exact hfit) hm hs (by show (K.put (!K.on) _).n < _; rw [hr0]; exact hn)
        rw [tp] at hl
        have hov : K.over (!K.on) ((K.tape (!K.on)).reset D) b s = Kp.laid { K.put (!K.on) { K.tape (!K.on) with p := (K.tape (!K.on)).fr, n := 0 } with dead := 0 } (!K.on) (Tp.append { K.tape (!K.on) with p := (K.tape (!K.on)).fr, n := 0 } D1 b) s := by
          rw [e1]
          unfold Kp.over
          rw [if_pos rfl]
        rw [hov]
        rcases hl with ⟨K', D', k1, k2, k3, k4, k5⟩ | ⟨ha, K', D', k1, k2, k3⟩
        · left
          refine ⟨K', D', k1, k2, ?_, k4, fun h0 => k5 (e4 h0)⟩
          rw [k3]
          show (K.put (!K.on) _).n + 1 = _
          rw [hr0]
        · right
          refine ⟨fun h0 => ha (e4 h0), K', D', k1, k2, k3.ok, k3.off, k3.q, fun keep => ?_⟩
          obtain ⟨K1, j1, j2⟩ := k3.st keep
          refine ⟨K1, j1, ?_⟩
          rcases j2 with ⟨j3, j4⟩ | ⟨j3, j4⟩
          · exact .inl ⟨j3.trans hr0, j4.trans hr1⟩
          · exact .inr ⟨by rw [j3]; show (K.put (!K.on) _).n + 1 = _; rw [hr0], j4⟩
      · right
        refine ⟨ha, { K.put (!K.on) { K.tape (!K.on) with dead := 13 } with dead := 13 }, D1, ?_, rfl, e2.ok, e2.off, e2.q, fun keep => ?_⟩
        · rw [e1]
          unfold Kp.over
          rw [if_neg (by show ¬ (13 : Int) = 0; decide)]
        · have hcal := Dk.started_calm e2.ok keep
          rcases e2.st keep with e | e
          · refine ⟨K, h.of hcal fun o r hr => ⟨by rw [e]; exact hr.rc, hr.n, hr.dead, hr.fr, hr.en⟩, .inl ⟨rfl, rfl⟩⟩
          · exact ⟨_, h.clear_ hcal e hsz, .inl ⟨hr0, hr1⟩⟩
end
end Go.Proofs.YtlecglmiigdjlaaGreatDoor
namespace Go.Proofs.YtlecglmiigdjlaaGreatDoor
set_option linter.unusedVariables false
set_option linter.unusedSimpArgs false
theorem make_recs (sz fr e : Nat) : recs (Dk.make sz).now fr e = ([], fr, false) := by
  apply recs_end
  unfold mkAt Dk.make
  rw [List.getD_eq_getElem?_getD]
  by_cases hf : fr < sz
  · rw [List.getElem?_eq_getElem (by simpa using hf)]
    simp
  · rw [List.getElem?_eq_none (by simp; omega)]
    rfl
theorem make_calm {sz : Nat} (h : 1 ≤ sz) : (Dk.make sz).Calm sz := ⟨Dk.make_ok, rfl, rfl⟩
theorem make_inv {sz : Nat} (h : 20 ≤ sz) : KInv sz (kpOf sz (Dk.make sz)) (Dk.make sz) := by
  refine ⟨make_calm (by omega), rfl, rfl, rfl, ⟨[], [], ?_, ?_, .inl ⟨rfl, rfl⟩, .inl rfl⟩, fun _ => ⟨rfl, rfl⟩, Nat.zero_le _⟩
  · show ArI sz (⟨sz / 2, 0, (recs (Dk.make sz).now 0 (sz / 2)).2.1, (recs (Dk.make sz).now 0 (sz / 2)).1.length, 0⟩ : Tp) (Dk.make sz) false []
    rw [make_recs]
    exact ⟨make_recs _ _ _, rfl, rfl, rfl, rfl⟩
  · show ArI sz (⟨sz, sz / 2, (recs (Dk.make sz).now (sz / 2) sz).2.1, (recs (Dk.make sz).now (sz / 2) sz).1.length, 0⟩ : Tp) (Dk.make sz) true []
    rw [make_recs]
    exact ⟨make_recs _ _ _, rfl, rfl, rfl, rfl⟩
/-- How long a record is. -/
theorem stL_len (n : Int) (s : St) (k : Nat) (hc : s.cf.length ≤ 1000000) (hs : s.sn.length ≤ 100000000) (hl : s.l.length ≤ 1000000) (hk : ∀ e ∈ s.l, e.d.length ≤ k) (hk2 : k ≤ 1000000) : (stL n s).length ≤ 22 * s.cf.length + s.sn.length + (k + 110) * s.l.length + 300 := by
  have h1 := confF_le [n, s.tm, s.vt, s.b, s.t]
  have h2 := confF_le s.cf
  have h3 := uintL_le s.cf.length (by omega)
  have h4 : (confL s.cf).length = (uintL s.cf.length).length + (confF s.cf).length := by unfold confL; rw [List.length_append]
  have h5 := bytesL_len (confL s.cf) (by omega)
  have h6 := bytesL_len s.sn (by omega)
  have h7 := uintL_le s.l.length (by omega)
  have h8 := entF_le k s.l hk hk2
  rw [stL_pre]
  simp only [List.length_append, List.length_cons, List.length_nil] at h1 ⊢
  omega
theorem St0_may {cf : List Int} (h : cmay cf = true) : (St0 cf).may = true := by
  unfold St0 St.may
  dsimp only
  rw [h]
  rfl
section
variable {sz : Nat} {K : Kp} {D : Dk} {s : St}
/-- Whatever is saved. -/
theorem KInv.save_ (h : KInv sz K D) (hsz : 20 ≤ sz) (hbl : s.may = true → (stL ((K.n : Nat) + 1 : Int) s).length ≤ 1048576 ∧ s.sn.length ≤ 1048576) (hn : K.n < 1000000000) :
    (s = K.now ∧ K.save D s = (K, D, 0)) ∨
    (s ≠ K.now ∧ s.may = false ∧ K.save D s = (K, D, 1)) ∨
    (s ≠ K.now ∧ s.may = true ∧ K.save D s = (K, D, 10) ∧ K.whole (!K.on) < ((stL ((K.n : Nat) + 1 : Int) s).length : Int)) ∨
    (s ≠ K.now ∧ s.may = true ∧ ∃ K' D', K.save D s = (K', D', 0) ∧ KInv sz K' D' ∧ K'.n = K.n + 1 ∧ K'.now = s ∧ (D.armed = 0 → D'.armed = 0)) ∨
    (s ≠ K.now ∧ s.may = true ∧ D.armed ≠ 0 ∧ ∃ K' D', K.save D s = (K', D', 13) ∧ K'.dead = 13 ∧ Lost sz K s D') := by
  unfold Kp.save
  rw [if_neg (fun h5 => h5 h.dead)]
  by_cases h1 : s = K.now
  · exact .inl ⟨h1, if_pos h1⟩
  · rw [if_neg h1]
    by_cases h2 : s.may = true
    · rw [if_pos h2]
      have hb := hbl h2
      rcases h.lay_ hsz rfl hb.1 h2 hb.2 hn with ⟨k1, k2⟩ | ⟨K', D', k1, k2⟩ | ⟨k0, K', D', k1, k2⟩
      · exact .inr (.inr (.inl ⟨h1, h2, k1, k2⟩))
      · exact .inr (.inr (.inr (.inl ⟨h1, h2, K', D', k1, k2⟩)))
      · exact .inr (.inr (.inr (.inr ⟨h1, h2, k0, K', D', k1, k2⟩)))
    · rw [if_neg h2]
      exact .inr (.inl ⟨h1, by simpa using h2, rfl⟩)
theorem KInv.whole_ (h : KInv sz K D) (o : Bool) (hsz : 20 ≤ sz) : ((sz / 2 : Nat) : Int) - 5 ≤ K.whole o := by
  have h0 := h.w0
  have h1 := h.w1
  cases o
  · show _ ≤ K.w0; omega
  · show _ ≤ K.w1; omega
end
end Go.Proofs.YtlecglmiigdjlaaGreatDoor
namespace Go.Proofs.YtlecglmiigdjlaaGreatDoor
open Go.RowKit
set_option linter.unusedVariables false
set_option linter.unusedSimpArgs false
variable {fb : Nat}
theorem dl1 {u : Nat} (h : u < 10) : (Lib.decDigits u).length = 1 := by rw [Lib.decDigits, dif_pos h]; rfl
theorem dl2 {u : Nat} (h : u < 100) : (Lib.decDigits u).length ≤ 2 := by
  by_cases h1 : u < 10
  · rw [dl1 h1]; omega
  · rw [Lib.decDigits, dif_neg h1, List.length_append, dl1 (by omega)]
    exact Nat.le_refl _
theorem confF_small : ∀ (l : List Int), (∀ z ∈ l, 0 ≤ z ∧ z ≤ 64) → (confF l).length ≤ 4 * l.length
  | [], _ => by simp [confF]
  | z :: l, h => by
    have h1 := confF_small l fun x hx => h x (List.mem_cons_of_mem _ hx)
    have hz := h z (by simp)
    have hu : uN z = z.toNat := uN_toNat hz.1 (by omega)
    have h2 := dl2 (u := z.toNat) (by omega)
    have h3 : (uintL (uN z)).length ≤ 4 := by rw [hu]; simp [uintL]; omega
    simp only [confF, List.map_cons, List.flatten_cons, List.length_append, List.length_cons] at h1 ⊢
    omega
theorem stL_first {cf : List Int} (h : cmay cf = true) : (stL 1 (St0 cf)).length ≤ 60 := by
  obtain ⟨h1, h2, h3⟩ := cmay_small h
  have h4 := confF_small cf h3
  have h5 : (confL cf).length ≤ 31 := by
    have := dl1 (u := cf.length) (by omega)
    unfold confL
    rw [List.length_append]
    simp [uintL]
    omega
  have h6 : (bytesL (confL cf)).length ≤ 35 := by
    have := dl2 (u := (confL cf).length) (by omega)
    simp [bytesL]
    omega
  have e1 : uN 1 = 1 := uN_toNat (by omega) (by omega)
  have e0 : uN 0 = 0 := uN_toNat (by omega) (by omega)
  have d0 := dl1 (u := 0) (by omega)
  have d1 := dl1 (u := 1) (by omega)
  unfold stL St0
  dsimp only
  rw [e1, e0]
  simp [uintL, bytesL, entF] at h6 ⊢
  omega
section
variable {sz : Nat} {L : Nat → Prop} {g : Nat} {D : Dk} {K : Kp} {cf : List Int} {W w' : World} {e : Ending}
/-- A blank disk. -/
theorem OpnP.fresh (h : OpnP fb W L g (Dk.make sz) sz cf e w') (hm : cmay cf = true) (hsz : 200 ≤ sz) :
    ∃ K1 D1 k t0 t1 z L', e = .returned (.tuple #[.pointer (some ⟨k, 0, none⟩), .nilIface]) ∧ KX fb w' L' k g t0 t1 K1 z D1 sz ∧ (∀ b, L' b → L b ∨ W.heap.size ≤ b) ∧ W.heap.size ≤ k ∧ W.heap.size ≤ t0 ∧ W.heap.size ≤ t1 ∧ Kept L W w' ∧ KInv sz K1 D1 ∧ K1.n = 1 ∧ K1.now = St0 cf ∧ D1.armed = 0 := by
  have hi := make_inv (sz := sz) (by omega)
  have ho := hi.open_
  have h1 := stL_first hm
  have hl := hi.lay_ (s := St0 cf) (by omega) rfl (by show (stL 1 (St0 cf)).length ≤ _; omega) (St0_may hm) (by show (0 : Nat) ≤ _; omega) (by show (0 : Nat) < _; omega)
  have hw := hi.whole_ (!(kpOf sz (Dk.make sz)).on) (by omega)
  rcases hl with ⟨_, h2⟩ | ⟨K', D', k1, k2, k3, k4, k5⟩ | ⟨h2, _⟩
  · have h3 : (((stL 1 (St0 cf)).length : Nat) : Int) ≤ 60 := by omega
    have h2' : (kpOf sz (Dk.make sz)).whole (!(kpOf sz (Dk.make sz)).on) < (((stL 1 (St0 cf)).length : Nat) : Int) := h2
    omega
  · rcases h with ⟨h3, _⟩ | ⟨K, k, t0, t1, z, h3, h4, _⟩ | ⟨K, k, t0, t1, z, L', h3, h4, h5, h6, h7, h8, h9, h10, h11, h12⟩ | ⟨K, h3, h4, h5, _⟩
    · rw [ho] at h3; cases h3
    · rw [ho] at h3
      injection h3 with h3
      rw [← h3] at h4
      exact absurd h4 (by show ¬ 0 < (0 : Nat); omega)
    · rw [ho] at h3
      injection h3 with h3
      subst h3
      rw [k1] at h7
      exact ⟨K', D', k, t0, t1, z, L', h6, h7, h8, h9, h10, h11, h12, k2, k3, k4, k5 rfl⟩
    · rw [ho] at h3
      injection h3 with h3
      subst h3
      rw [k1] at h5
      exact absurd rfl h5
  · exact absurd rfl h2
/-- One that was saved to. -/
theorem OpnP.again (h : OpnP fb W L g D sz cf e w') (hi : KInv sz K D) (hn : 1 ≤ K.n) :
    ∃ k t0 t1 z, e = .returned (.tuple #[.pointer (some ⟨k, 0, none⟩), .nilIface]) ∧ KX fb w' L k g t0 t1 K z D sz ∧ W.heap.size ≤ k ∧ W.heap.size ≤ t0 ∧ W.heap.size ≤ t1 ∧ Below W.heap.size W w' := by
  have ho := hi.open_
  rcases h with ⟨h3, _⟩ | ⟨K', k, t0, t1, z, h3, h4, h5, h6, h7, h8, h9, h10⟩ | ⟨K', k, t0, t1, z, L', h3, h4, _⟩ | ⟨K', h3, h4, _⟩
  · rw [ho] at h3; cases h3
  · rw [ho] at h3
    injection h3 with h3
    subst h3
    exact ⟨k, t0, t1, z, h5, h6, h7, h8, h9, h10⟩
  · rw [ho] at h3
    injection h3 with h3
    subst h3
    omega
  · rw [ho] at h3
    injection h3 with h3
    subst h3
    omega
end
end Go.Proofs.YtlecglmiigdjlaaGreatDoor
