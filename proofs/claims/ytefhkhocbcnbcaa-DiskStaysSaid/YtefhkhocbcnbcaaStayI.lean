/- What holds from call to call in DiskStays. -/
import Derived.Test.YtefhkhocbcnbcaaStay
import Derived.Test.YtefhkhocbcnbcaaActs
import Derived.Test.YtefhkhocbcnbcaaSure
namespace Go.Proofs.Ytefhkhocbcnbcaa
open Go.RowKit
set_option linter.unusedVariables false
set_option linter.unusedSimpArgs false
def bools (ws : List Bool) : Array Value := (ws.map Value.bool).toArray
theorem bools_set {ws : List Bool} {i : Nat} : bools (ws.set i true) = (bools ws).setIfInBounds i (.bool true) := by
  unfold bools
  rw [List.map_set]
  simp
theorem bools_get {ws : List Bool} {i : Nat} {b : Bool} (h : ws[i]? = some b) : (bools ws)[i]? = some (.bool b) := by
  unfold bools
  simp [h]
theorem AcOk.at_ {w : World} {x : Ac} (h : AcOk w x) : Rd w (fun b => b < w.heap.size) 1 x.A x.n (bs x.d) := (h.1.1.lt (by omega)).mono fun b hb => hb.2
/-- The disk behind at most j writes. -/
structure QuI (w : World) (j g : Nat) (wr : World) : Prop where
  ex : ∃ U D, DX wr U g D 60 ∧ QuietD D ∧ D.q.length ≤ j ∧ ∀ b, U b → w.heap.size ≤ b
  be : Below w.heap.size w wr
theorem QuI.below {w wr W' : World} {j g : Nat} (h : QuI w j g wr) (hb : Below wr.heap.size wr W') : QuI w j g W' := by
  obtain ⟨U, D, h1, h2⟩ := h.ex
  exact ⟨⟨U, D, h1.below hb, h2⟩, h.be.trans (hb.mono h.be.size)⟩
theorem max_i64 : maxLen = 9223372036854775807 := by decide
theorem rd_args {w wr : World} {U : Nat → Prop} {x : Ac} (h : AcOk w x) (hb : Below w.heap.size w wr) (hU : ∀ b, U b → w.heap.size ≤ b) : Rd wr (fun k => ¬ U k) 1 x.A x.n (bs x.d) :=
  (h.at_.keep fun b hb' _ => hb.block b hb').mono fun b hb' hu => by have := hU b hu; omega
theorem within_new {w wr : World} {U U' : Nat → Prop} (hU : ∀ b, U b → w.heap.size ≤ b) (hz : w.heap.size ≤ wr.heap.size) (hl : ∀ b, U' b → U b ∨ wr.heap.size ≤ b) : ∀ b, U' b → w.heap.size ≤ b := fun b hb => by
  rcases hl b hb with h | h
  · exact hU b h
  · exact Nat.le_trans hz h
theorem qu_write {w wr : World} {j g : Nat} {x : Ac} (h : QuI w j g wr) (hx : AcOk w x) (hj : j ≤ 1000) :
    Calls Try.prog 6 #[.pointer (some ⟨g, 0, none⟩), .int .i64 x.b, .slice x.A x.n x.m] wr (fun e w' => (∃ k, e = .returned (errD k)) ∧ QuI w (j + 1) g w') := by
  obtain ⟨U, D, h1, h2, h3, h4⟩ := h.ex
  have hm := max_i64
  have hxm := hx.1.2
  refine (write_any x.b x.A x.n x.m x.d wr h1 (rd_args hx h.be h4) hx.2.2.2.1 (by omega) (by omega)).mono ?_
  rintro e w' ⟨rfl, U', k1, k2, k3⟩
  obtain ⟨q1, q2, -⟩ := quiet_write h2 x.b x.d
  exact ⟨⟨_, rfl⟩, ⟨U', _, k1, q1, by omega, within_new h4 h.be.size k2⟩, h.be.trans (k3.below h4 h.be.size)⟩
/-- The disk behind a Sync. -/
def SyI (w : World) (S : List UInt8) (g : Nat) (wr : World) : Prop := ∃ U D, DX wr U g D 60 ∧ QuietD D ∧ D.q = [] ∧ D.safe = S ∧ D.now = S ∧ (∀ b, U b → w.heap.size ≤ b) ∧ Below w.heap.size w wr
theorem SyI.below {w wr W' : World} {S : List UInt8} {g : Nat} (h : SyI w S g wr) (hb : Below wr.heap.size wr W') : SyI w S g W' := by
  obtain ⟨U, D, h1, h2, h3, h4, h5, h6, h7⟩ := h
  exact ⟨U, D, h1.below hb, h2, h3, h4, h5, h6, h7.trans (hb.mono h7.size)⟩
theorem qu_sync {w wr : World} {j g : Nat} (h : QuI w j g wr) (hj : j ≤ 1000) :
    Calls Try.prog 11 #[.pointer (some ⟨g, 0, none⟩)] wr (fun e w' => e = .returned .nilIface ∧ ∃ S, S.length = 60 ∧ SyI w S g w') := by
  obtain ⟨U, D, h1, h2, h3, h4⟩ := h.ex
  obtain ⟨q1, q2, q3, q4⟩ := quiet_sync h2
  refine (sync_any wr h1 (by omega)).mono ?_
  rintro e w' ⟨rfl, U', k1, k2, k3⟩
  refine ⟨by rw [q1]; rfl, D.sync.1.safe, q2.ok.safe, U', _, k1, q2, q3, rfl, q4, within_new h4 h.be.size k2, h.be.trans (k3.below h4 h.be.size)⟩
theorem sy_waits {w wr : World} {S : List UInt8} {g : Nat} (h : SyI w S g wr) : Calls Try.prog 12 #[.pointer (some ⟨g, 0, none⟩)] wr (fun e w' => e = .returned (.int .i64 0) ∧ Below wr.heap.size wr w') := by
  obtain ⟨U, D, h1, h2, h3, h4, h5, h6, h7⟩ := h
  have := waits_any wr h1
  rw [h3] at this
  exact this
def ReadAll (W : World) (S : List UInt8) (n : Nat) (e : Ending) (w' : World) : Prop := ∃ A c, e = .returned (.tuple #[.slice A n c, .nilIface]) ∧ Rd w' (W.heap.size ≤ ·) 1 A n (bs S) ∧ Below W.heap.size W w'
theorem read_all {wr : World} {U : Nat → Prop} {D : Dk} {g : Nat} (h : DX wr U g D 60) (h2 : QuietD D) : Calls Try.prog 10 #[.pointer (some ⟨g, 0, none⟩), .int .i64 0, .int .i64 60] wr (ReadAll wr D.now 60) := by
  have hr := read_any 0 60 wr h (by unfold I64; omega) (by unfold I64; omega)
  rw [quiet_all h2] at hr
  refine hr.mono ?_
  rintro e w' ⟨A, c, rfl, k1, k2⟩
  dsimp only at k1 ⊢
  rw [h2.ok.nowlen] at k1 ⊢
  exact ⟨A, c, rfl, k1, k2⟩
theorem sy_read {w wr : World} {S : List UInt8} {g : Nat} (h : SyI w S g wr) : Calls Try.prog 10 #[.pointer (some ⟨g, 0, none⟩), .int .i64 0, .int .i64 60] wr (ReadAll wr S 60) := by
  obtain ⟨U, D, h1, h2, h3, h4, h5, h6, h7⟩ := h
  rw [← h5]
  exact read_all h1 h2
/-- The disk, the bytes that were safe, and the marks. -/
structure StayI (w wr : World) (S : List UInt8) (V g j : Nat) (ws : List Bool) (As : Option Addr) : Prop where
  ex : ∃ U D, DX wr U g D 60 ∧ StayD S D ws ∧ D.q.length ≤ j ∧ (∀ b, U b → w.heap.size ≤ b) ∧ ¬ U V ∧ Rd wr (fun b => b ≠ V ∧ ¬ U b) 1 As 60 (bs S)
  bx : Bx wr V (bools ws)
  be : Below w.heap.size w wr
  vw : w.heap.size ≤ V
theorem StayI.below {w wr W' : World} {S : List UInt8} {V g j : Nat} {ws : List Bool} {As : Option Addr} (h : StayI w wr S V g j ws As) (hb : Below wr.heap.size wr W') : StayI w W' S V g j ws As := by
  obtain ⟨U, D, h1, h2, h3, h4, h5, h6⟩ := h.ex
  exact ⟨⟨U, D, h1.below hb, h2, h3, h4, h5, h6.below hb⟩, h.bx.below hb, h.be.trans (hb.mono h.be.size), h.vw⟩
theorem stay_begin {w wr w2 : World} {S : List UInt8} {g : Nat} {As : Option Addr} (h : SyI w S g wr) (hb : Below wr.heap.size wr w2) (hr : Rd w2 (wr.heap.size ≤ ·) 1 As 60 (bs S)) :
    StayI w (w2.alloc (.cells (bools (List.replicate 60 false)) 42)) S w2.heap.size g 0 (List.replicate 60 false) As := by
  obtain ⟨U, D, h1, h2, h3, h4, h5, h6, h7⟩ := h
  have hd := h1.below hb
  have hlt := h1.lt
  have hz := hb.size
  refine ⟨⟨U, D, hd.below ((Below.refl _ _).alloc (Nat.le_refl _) _), by rw [← h4]; exact stay_new h2 h3, by rw [h3]; exact Nat.le_refl _, h6, fun hu => by have := hlt _ hu; omega, ?_⟩, Bx.new _ _ _ rfl, (h7.trans (hb.mono h7.size)).alloc (Nat.le_trans h7.size hz) _, Nat.le_trans h7.size hz⟩
  exact ((hr.lt (by omega)).alloc _).mono fun b hb' => ⟨by omega, fun hu => by have := hlt _ hu; omega⟩
/-- Behind a write that was done, so many of its bytes marked. -/
structure StayP (w wr : World) (S : List UInt8) (V g j : Nat) (ws : List Bool) (As : Option Addr) (p : Nat) (d : List UInt8) (k : Nat) : Prop where
  ex : ∃ U D, DX wr U g (D.put p d) 60 ∧ StayD S D ws ∧ D.q.length ≤ j ∧ (∀ b, U b → w.heap.size ≤ b) ∧ ¬ U V ∧ Rd wr (fun b => b ≠ V ∧ ¬ U b) 1 As 60 (bs S)
  bx : ∃ ws', Bx wr V (bools ws') ∧ Marked ws ws' p k
  be : Below w.heap.size w wr
  vw : w.heap.size ≤ V
  fit : p + d.length ≤ 60
section
variable {w wr W' : World} {S : List UInt8} {V g j : Nat} {ws : List Bool} {As : Option Addr} {p : Nat} {d : List UInt8} {k : Nat}
theorem StayP.below (h : StayP w wr S V g j ws As p d k) (hb : Below wr.heap.size wr W') : StayP w W' S V g j ws As p d k := by
  obtain ⟨U, D, h1, h2, h3, h4, h5, h6⟩ := h.ex
  obtain ⟨ws', h7, h8⟩ := h.bx
  exact ⟨⟨U, D, h1.below hb, h2, h3, h4, h5, h6.below hb⟩, ⟨ws', h7.below hb, h8⟩, h.be.trans (hb.mono h.be.size), h.vw, h.fit⟩
theorem StayP.mark (h : StayP w wr S V g j ws As p d k) (hk : p + k < 60) : StayP w (wr.setCell ⟨V, p + k, none⟩ (.bool true)) S V g j ws As p d (k + 1) := by
  obtain ⟨U, D, h1, h2, h3, h4, h5, h6⟩ := h.ex
  obtain ⟨ws', h7, h8⟩ := h.bx
  refine ⟨⟨U, D, h1.keep (fun b hb => Below.heap_setCell _ _ _ b (fun e => h5 ((show b = V from e) ▸ hb))) (by simp [World.setCell]), h2, h3, h4, h5, h6.setCell (fun hh => hh.1 rfl) _⟩, ⟨ws'.set (p + k) true, ?_, marked_step h8 hk⟩, h.be.setCell h.vw _, h.vw, h.fit⟩
  rw [bools_set]
  exact h7.set _ _
theorem StayP.cell (h : StayP w wr S V g j ws As p d k) {i : Nat} (hi : i < 60) : ∃ b, wr.cell? ⟨V, i, none⟩ = some (.bool b) ∧ wr.frozen? ⟨V, i, none⟩ = false := by
  obtain ⟨ws', h7, h8⟩ := h.bx
  have hw : ws'[i]? = some (ws'[i]'(by rw [h8.1]; exact hi)) := List.getElem?_eq_getElem _
  exact ⟨_, (h7.c i).trans (bools_get hw), h7.f i⟩
theorem StayP.done (h : StayP w wr S V g j ws As p d d.length) : ∃ ws', StayI w wr S V g (j + 1) ws' As := by
  obtain ⟨U, D, h1, h2, h3, h4, h5, h6⟩ := h.ex
  obtain ⟨ws', h7, h8⟩ := h.bx
  exact ⟨ws', ⟨U, D.put p d, h1, stay_put h2 h.fit h8, by simp [Dk.put]; omega, h4, h5, h6⟩, h7, h.be, h.vw⟩
theorem stayP_read (h : StayP w wr S V g j ws As p d k) {n : Nat} (hn : d.length = n) : Calls Try.prog 10 #[.pointer (some ⟨g, 0, none⟩), .int .i64 p, .int .i64 n] wr (ReadAll wr d n) := by
  obtain ⟨U, D, h1, h2, h3, h4, h5, h6⟩ := h.ex
  have hf := h.fit
  have hr := read_any p d.length wr h1 (by unfold I64; omega) (by unfold I64; omega)
  rw [put_read h2.qu h.fit, hn] at hr
  refine hr.mono ?_
  rintro e w' ⟨A, c, rfl, k1, k2⟩
  dsimp only at k1 ⊢
  rw [hn] at k1 ⊢
  exact ⟨A, c, rfl, k1, k2⟩
theorem stay_write {x : Ac} (h : StayI w wr S V g j ws As) (hx : AcOk w x) (hj : j ≤ 1000) :
    Calls Try.prog 6 #[.pointer (some ⟨g, 0, none⟩), .int .i64 x.b, .slice x.A x.n x.m] wr (fun e w' => (∃ p : Nat, x.b = p ∧ e = .returned .nilIface ∧ StayP w w' S V g j ws As p x.d 0) ∨ (∃ k, k ≠ 0 ∧ e = .returned (errD k) ∧ StayI w w' S V g j ws As)) := by
  obtain ⟨U, D, h1, h2, h3, h4, h5, h6⟩ := h.ex
  have hm := max_i64
  have hxm := hx.1.2
  refine (write_any x.b x.A x.n x.m x.d wr h1 (rd_args hx h.be h4) hx.2.2.2.1 (by omega) (by omega)).mono ?_
  rintro e w' ⟨rfl, U', k1, k2, k3⟩
  have hb := h.be.trans (k3.below h4 h.be.size)
  have hvl := h.bx.lt
  have hv' : ¬ U' V := fun hu => by
    rcases k2 V hu with h7 | h7
    · exact h5 h7
    · omega
  have hrs : Rd w' (fun b => b ≠ V ∧ ¬ U' b) 1 As 60 (bs S) := ((h6.lt (by omega)).keep fun b hb' hlt => k3.block b hlt hb'.1.2).mono fun b hb' => ⟨hb'.1.1, fun hu => by
    rcases k2 b hu with h7 | h7
    · exact hb'.1.2 h7
    · omega⟩
  have hbx := k3.bx h.bx h5
  by_cases h0 : D.withE x.b x.d.length = 0
  · have hw := (Dk.withE_iff h2.qu.ok).1 h0
    obtain ⟨p, hp⟩ := Int.eq_ofNat_of_zero_le hw.1.1
    have e1 : D.write x.b x.d = (D.put p x.d, 0) := by
      unfold Dk.write
      rw [if_pos h0, hp, Int.toNat_natCast]
      rw [Dk.stepped_zero (show (D.put p x.d).armed = 0 from h2.qu.armed)]
      unfold Dk.stepE
      rw [h2.qu.armed]
      rfl
    rw [e1] at k1 ⊢
    exact .inl ⟨p, hp, rfl, ⟨⟨U', D, k1, h2, h3, within_new h4 h.be.size k2, hv', hrs⟩, ⟨ws, hbx, marked_zero h2.len⟩, hb, h.vw, by omega⟩⟩
  · have e1 : D.write x.b x.d = (D, D.withE x.b x.d.length) := by unfold Dk.write; rw [if_neg h0]
    rw [e1] at k1 ⊢
    exact .inr ⟨_, h0, rfl, ⟨U', D, k1, h2, h3, within_new h4 h.be.size k2, hv', hrs⟩, hbx, hb, h.vw⟩
/-- Behind the power's coming back. -/
structure EndI (w wr : World) (S : List UInt8) (V g : Nat) (ws : List Bool) (As : Option Addr) (now : List UInt8) : Prop where
  ex : ∃ U D, DX wr U g D 60 ∧ QuietD D ∧ D.now = now
  same : ∀ i : Nat, ws[i]? = some false → now[i]? = S[i]?
  rs : Rd wr T 1 As 60 (bs S)
  bx : Bx wr V (bools ws)
  len : ws.length = 60
  be : Below w.heap.size w wr
theorem EndI.below {now : List UInt8} (h : EndI w wr S V g ws As now) (hb : Below wr.heap.size wr W') : EndI w W' S V g ws As now := by
  obtain ⟨U, D, h1, h2⟩ := h.ex
  exact ⟨⟨U, D, h1.below hb, h2⟩, h.same, h.rs.below hb, h.bx.below hb, h.len, h.be.trans (hb.mono h.be.size)⟩
theorem stay_start {A : Option Addr} {n c : Nat} {keep : List Int} (h : StayI w wr S V g j ws As) (hj : j ≤ 1000) (hb : Below wr.heap.size wr W') (hr : Rd W' T 1 A n (ii keep)) (hk : ∀ z ∈ keep, I64 z) :
    Calls Try.prog 8 #[.pointer (some ⟨g, 0, none⟩), .slice A n c] W' (fun e w' => e = .returned (.tuple #[]) ∧ ∃ now, EndI w w' S V g ws As now) := by
  obtain ⟨U, D, h1, h2, h3, h4, h5, h6⟩ := (h.below hb).ex
  have hbx := (h.below hb).bx
  have hbe := (h.below hb).be
  refine (start_any A n c keep W' h1 hr hk (by omega)).mono ?_
  rintro e w' ⟨rfl, U', k1, k2, k3⟩
  obtain ⟨s1, s2⟩ := stay_end (keep := keep) h2
  exact ⟨rfl, _, ⟨⟨U', _, k1, s1, rfl⟩, s2, (((h6.lt (by omega)).keep fun b hb' hlt => k3.block b hlt hb'.1.2)).any, k3.bx hbx h5, h2.len, hbe.trans (k3.below h4 hbe.size)⟩⟩
theorem end_read {now : List UInt8} (h : EndI w wr S V g ws As now) : Calls Try.prog 10 #[.pointer (some ⟨g, 0, none⟩), .int .i64 0, .int .i64 60] wr (ReadAll wr now 60) := by
  obtain ⟨U, D, h1, h2, h3⟩ := h.ex
  rw [← h3]
  exact read_all h1 h2
end
theorem StayI.next {w wr : World} {S : List UInt8} {V g j : Nat} {ws : List Bool} {As : Option Addr} (h : StayI w wr S V g j ws As) : StayI w wr S V g (j + 1) ws As := by
  obtain ⟨U, D, h1, h2, h3, h4⟩ := h.ex
  exact ⟨⟨U, D, h1, h2, by omega, h4⟩, h.bx, h.be, h.vw⟩
end Go.Proofs.Ytefhkhocbcnbcaa
