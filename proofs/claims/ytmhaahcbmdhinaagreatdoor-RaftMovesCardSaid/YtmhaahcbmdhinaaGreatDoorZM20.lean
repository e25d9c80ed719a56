/- errors.As at a target of type *api.Errno, the error nil or an api.Errno; turned from the kit's worked text ToyasAs to an element type that is an integer
   Walk of the law package's num: an error's number.
   Walk: (*raft.Core).handed
   Walk: chunk.Cut; the piece is of the call's own
   Walk: (*raft.Core).send
   Rows of messages of the call's own; the map of the others rewritten. -/
import Derived.Test.YtmhaahcbmdhinaaGreatDoorProg
import Derived.WalkKit
import Derived.LaidEql
import Derived.Stop.Asserts
import Derived.RowKitTokens
import Derived.Test.YtmhaahcbmdhinaaGreatDoorZM0
import Derived.Test.YtmhaahcbmdhinaaGreatDoorZM19
import Derived.Test.YtmhaahcbmdhinaaGreatDoorZM2
import Derived.Test.YtmhaahcbmdhinaaGreatDoorZM9
import Derived.Test.YtmhaahcbmdhinaaGreatDoorZM10
import Derived.Test.YtmhaahcbmdhinaaGreatDoorZM16
import Derived.Deep.LoopGhost
namespace Go.Proofs.YtmhaahcbmdhinaaGreatDoor
open Go.RowKit Go.Extern.Stop Go.Stop Go.Extern
set_option linter.unusedVariables false
set_option linter.unusedSimpArgs false
end Go.Proofs.YtmhaahcbmdhinaaGreatDoor
namespace Go.Proofs.YtmhaahcbmdhinaaGreatDoor
open Go.RowKit
set_option linter.unusedVariables false
set_option linter.unusedSimpArgs false
end Go.Proofs.YtmhaahcbmdhinaaGreatDoor
namespace Go.Proofs.YtmhaahcbmdhinaaGreatDoor
open Go.RowKit
set_option maxRecDepth 100000
set_option linter.unusedVariables false
set_option linter.unusedSimpArgs false
def Env (fb : Nat) (w : World) : Prop := ∃ w0 : World, w0.heap.size = fb ∧ EvW w0 fb ∧ TabW w0 ∧ Below fb w0 w
theorem Env.below {fb B : Nat} {w w' : World} (h : Env fb w) (hb : Below B w w') (hB : fb ≤ B) : Env fb w' := by
 obtain ⟨w0, h1, h2, h3, h4⟩ := h
 exact ⟨w0, h1, h2, h3, h4.trans (hb.mono hB)⟩
theorem Env.le {fb : Nat} {w : World} (h : Env fb w) : fb ≤ w.heap.size := by
 obtain ⟨w0, h1, h2, h3, h4⟩ := h
 have := h4.size
 omega
theorem Env.new {fb : Nat} {w w' : World} (h : Env fb w) (hb : Below w.heap.size w w') : Env fb w' := h.below hb h.le
theorem Env.ev {fb : Nat} {w : World} (h : Env fb w) : EvW w w.heap.size := by
 have hl := h.le
 obtain ⟨w0, h1, h2, h3, h4⟩ := h
 exact (h2.below h4 (Nat.le_refl _)).mono hl
theorem Env.tab {fb : Nat} {w : World} (h : Env fb w) : TabW w := by
 obtain ⟨w0, h1, h2, h3, h4⟩ := h
 exact h3.below h4 (by omega)
theorem Env.kept {fb : Nat} {w w' : World} {V : Nat → Prop} (h : Env fb w) (hk : Kept V w w') (hv : ∀ b, V b → fb ≤ b) : Env fb w' := h.below (hk.below hv h.le) (Nat.le_refl _)
theorem Env.drew {fb : Nat} {w : World} (h : Env fb w) : Env fb w.drew := h.new (Below.refl _ _).drew
theorem CX.fit {fb p : Nat} {w : World} {V U : Nat → Prop} {C : Cr} {m : Mb} {k : Nat} (h : CX fb w p V U C m) (ho : C.Ok k) : m.s.Fit := by
 obtain ⟨k1, k2, k3, k4, k5, k6, k7⟩ := h.s_eq
 obtain ⟨h1, h2, h3, h4, h5, h6, h7, h8, h9⟩ := St.may_iff ho.may
 have l1 := h.at_.l.flen ecell_len (by omega)
 have l2 : (m.s.L.map en).length ≤ 4096 := by rw [k5]; exact h4
 rw [List.length_map] at l2
 have l3 := ii_len h.at_.cf
 have l4 := h.at_.sn.blen
 have l5 := (cmay_iff.1 h2).2.2.2
 have l6 := ho.sn
 rw [← k6] at l5
 rw [← k7] at l6
 refine ⟨⟨?_, ?_, ?_, ?_⟩, fun y hy => ?_, by omega, by omega, by omega⟩
 ·rw [k1]; unfold I64; omega
 ·rw [k2]; unfold I64; omega
 ·rw [k3]; unfold I64; omega
 ·rw [k4]; unfold I64; omega
 ·have hm : en y ∈ C.s.l := by rw [← k5]; exact List.mem_map_of_mem hy
  have he := h5 _ hm
  unfold EnOk en at he
  dsimp only at he
  have hd := (h.at_.d y hy).1.blen
  unfold W64 I64
  omega
theorem handed_len {C : Cr} {k : Nat} (ho : C.Ok k) : (confL C.s.cf).length ≤ 176 ∧ C.handed.length ≤ 1048800 := by
 obtain ⟨h1, h2, h3, h4, h5, h6, h7, h8, h9⟩ := St.may_iff ho.may
 have hc : (confL C.s.cf).length ≤ 176 := by
  have := confF_le C.s.cf
  have h10 := (cmay_small h2).2.1
  have h11 := uintL_le C.s.cf.length (by omega)
  unfold confL
  rw [List.length_append]
  omega
 have l6 := ho.sn
 refine ⟨hc, ?_⟩
 unfold Cr.handed
 have a1 := bytesL_len (confL C.s.cf) (by omega)
 have a2 := bytesL_len C.s.sn (by omega)
 rw [List.length_append]
 omega
set_option maxHeartbeats 3200000 in
theorem handed_any {fb p : Nat} {w : World} {V U : Nat → Prop} {C : Cr} {m : Mb} {k : Nat} (h : CX fb w p V U C m) (ho : C.Ok k) (he : Env fb w) :
  Calls Tryz.prog 131 #[.pointer (some ⟨p, 0, none⟩)] w (LayR w C.handed) := by
 have F : ∀ W, Below w.heap.size w W → W.cell? ⟨p, 5, none⟩ = some (.slice m.s.C m.s.nc m.s.cc) ∧ W.cell? ⟨p, 6, none⟩ = some (.slice m.s.S m.s.ns m.s.cs) := fun W hb => ⟨(h.below hb).bx.c 5, (h.below hb).bx.c 6⟩
 obtain ⟨k1, k2, k3, k4, k5, k6, k7⟩ := h.s_eq
 have hf := h.fit ho
 have hl := handed_len ho
 have henc := fun W (hb : Below w.heap.size w W) => cenc_any m.s.C m.s.nc m.s.cc m.s.cf W ((h.below hb).at_.cf) hf.z.2.1 (he.new hb).tab
 have hsn : Rd w (· < w.heap.size) 1 m.s.S m.s.ns (bs m.s.sn) := (h.at_.sn.lt (by omega)).mono fun b hb => hb.2
 have hsl := ho.sn
 have hns := h.at_.sn.blen
 have ht := he.tab
 have e1 : C.handed = bytesL (confL m.s.cf) ++ bytesL m.s.sn := by unfold Cr.handed; rw [k6, k7]
 have a1 := bytesL_len (confL C.s.cf) (by omega)
 have hbl : (bytesL (confL m.s.cf)).length ≤ 300 := by rw [k6]; omega
 have hcl : (confL m.s.cf).length ≤ 176 := by rw [k6]; exact hl.1
 have hsl' : m.s.ns ≤ 1048576 := by rw [← hns, k7]; exact hsl
 have FF := Lib.hid F
 have KH := Lib.hid (And.intro henc (And.intro hsn (And.intro ht (And.intro e1 (And.intro hbl (And.intro hcl (And.intro hsl' hl)))))))
 clear h ho he F k1 k2 k3 k4 k5 k6 k7 hf hl henc hsn hsl hns ht e1 a1 hbl hcl hsl'
 go_enter Tryz.func131, Tryz.ntmps131
 go_upto_region 1 with (fail)
 refine wp_region_S 15 (fun W => Below w.heap.size w W) (.take 1 (.take 2 (.take 3 (.take 4 (.take 5 (.take 8 (.take 9 (.take 10 (.take 11 (.take 12 (.one 0 (.one 6 (.one 7 (.one 13 (.one 14 (.one 15 (.nil))))))))))))))))) (by kernel_rfl) (Below.refl _ _).drew (fun _ _ _ _ h => h) (fun hS => ?_)
 repeat (first
  | (refine wpS_take (v := ?_) rfl rfl (by rfl) ?_ ?_; rotate_left; (intro W hW; have hf := FF.out W hW; go_split_ands; go_simp; try with_reducible rfl); try simp only [Act.put, lyA, lyB, lyC])
  | (refine wpS_skip rfl rfl (by rfl) ?_; try simp only [Act.put, lyA, lyB, lyC]))
 refine wpS_one rfl (by rfl) (fun K hK => ?_)
 go_simp
 go_at_call 137
 refine (new_i w.drew).mono ?_
 rintro e w1 ⟨rfl, i1⟩
 have hS1 : Below w.heap.size w w1 := (Below.refl _ _).drew.trans i1.be
 have I1 := Lib.hid i1
 clear i1
 refine hK (fun W => Below w.heap.size w W) _ _ (fun _ hq => hq) hS1 ?_
 clear hK K
 try simp only [Act.put, lyA, lyB, lyC]
 refine wpS_one rfl (by rfl) (fun K hK => ?_)
 go_simp
 go_at_call 75
 refine (KH.out.1 _ hS1).mono ?_
 intro e w2 h2
 obtain ⟨A2, n2, c2, rfl, o2, hb2⟩ := h2
 have hS2 : Below w.heap.size w w2 := hS1.trans (hb2.mono hS1.size)
 have O2 := Lib.hid (And.intro o2 hb2)
 clear o2 hb2
 refine hK (fun W => Below w.heap.size w W) _ _ (fun _ hq => hq) hS2 ?_
 clear hK K
 try simp only [Act.put, lyA, lyB, lyC]
 have hn2 : n2 ≤ 1048576 := by
  have := (Rd.of_own O2.out.1).blen
  have := KH.out.2.2.2.2.2.1
  omega
 have Hby := Lib.hid (bytes_i A2 n2 c2 (confL m.s.cf) I1.out O2.out.2 (by simp) KH.out.2.2.1 (Rd.of_own O2.out.1) (by omega))
 clear hn2
 refine wpS_one rfl (by rfl) (fun K hK => ?_)
 go_simp
 go_at_call 183
 refine (Hby.out).mono ?_
 rintro e w3 ⟨rfl, i3⟩
 have hS3 : Below w.heap.size w w3 := (Below.refl _ _).drew.trans i3.be
 have I3 := Lib.hid i3
 clear i3
 refine hK (fun W => Below w.heap.size w W) _ _ (fun _ hq => hq) hS3 ?_
 clear hK K
 try simp only [Act.put, lyA, lyB, lyC]
 have Hby2 := Lib.hid (bytes_o m.s.S m.s.ns m.s.cs m.s.sn I3.out (by rw [List.nil_append]; have := KH.out.2.2.2.2.1; omega) KH.out.2.2.1 (KH.out.2.1.below hS3) (by have := KH.out.2.2.2.2.2.2.1; omega))
 refine wpS_one rfl (by rfl) (fun K hK => ?_)
 go_simp
 go_at_call 183
 refine (Hby2.out).mono ?_
 rintro e w4 ⟨rfl, i4⟩
 have hS4 : Below w.heap.size w w4 := (Below.refl _ _).drew.trans i4.be
 have I4 := Lib.hid i4
 clear i4
 refine hK (fun W => Below w.heap.size w W) _ _ (fun _ hq => hq) hS4 ?_
 clear hK K
 try simp only [Act.put, lyA, lyB, lyC]
 have Hdn := Lib.hid (done_i I4.out (by rw [List.nil_append, ← KH.out.2.2.2.1]; have := KH.out.2.2.2.2.2.2.2.2; omega))
 refine wpS_one rfl (by rfl) (fun K hK => ?_)
 go_simp
 go_at_call 139
 refine (Hdn.out).mono ?_
 intro e w5 h5
 obtain ⟨A5, n5, c5, rfl, o5, hb5⟩ := h5
 have hS5 : Below w.heap.size w w5 := (Below.refl _ _).drew.trans hb5
 have O5 := Lib.hid o5
 clear o5 hb5
 refine hK (fun W => Below w.heap.size w W) _ _ (fun _ hq => hq) hS5 ?_
 clear hK K
 try simp only [Act.put, lyA, lyB, lyC]
 refine wpS_last rfl (by rfl) (fun K hK => ?_)
 go_simp
 refine hK _ _ ?_
 clear hK K
 try simp only [Act.put, lyA, lyB, lyC]
 refine wpS_nil ?_
 go_wp2_with fail
 go_ret
 rw [KH.out.2.2.2.1]
 exact ⟨A5, n5, c5, rfl, O5.out, hS5⟩
def errN (k : Int) : Value := if k = 0 then .nilIface else .iface 105 (.int .i64 k)
theorem own_cpn {w : World} {base : Nat} {e : TypeId} {size n c : Nat} {A : Option Addr} {xs : List Value} (h : w.ownsRow base e size (.slice A n c) n xs) : n ≤ c ∧ c ≤ maxLen := by
 obtain ⟨A', c', e, h1, h2⟩ := own_form h
 injection e with e1 e2 e3
 subst e3
 exact ⟨h1, h2⟩
def CutPostN (W : World) (l : List UInt8) (last : Bool) (e : Ending) (w' : World) : Prop :=
 ∃ A n c, e = .returned (.tuple #[.slice A n c, .bool last, .nilIface]) ∧ Rd w' (W.heap.size ≤ ·) 1 A n (bs l) ∧ (n ≤ c ∧ c ≤ maxLen) ∧ Below W.heap.size W w'

theorem cutn_ok (A : Option Addr) (n c : Nat) (t : List UInt8) (off size : Nat) (w : World) {ok : Nat → Prop} (hr : Rd w ok 1 A n (bs t)) (hc : n ≤ c) (hn : n ≤ 2000000) (h1 : 1 ≤ size) (h2 : size ≤ 1048576)
  (h4 : ((off : Int) == n) = true ∧ off = 0 ∨ ((off : Int) == n) = false ∧ off < n) (last : Bool) (k : Nat) (h5 : (off + size < n ∧ k = size ∧ last = false) ∨ (n ≤ off + size ∧ k = n - off ∧ last = true)) :
  Calls Tryz.prog 169 #[.slice A n c, .int .i64 off, .int .i64 size] w (CutPostN w ((t.drop off).take k) last) := by
 rcases h5 with ⟨h5, rfl, rfl⟩ | ⟨h5, rfl, rfl⟩ <;> rcases h4 with ⟨h4, h4'⟩ | ⟨h4, h4'⟩
 ·exfalso; simp at h4; omega
 ·obtain ⟨A1, e1, r1⟩ : ∃ A1, (∀ W, (Instr.sliceAt 26 (.slice A n c) (some (.int .i64 (off : Int))) (some (.int .i64 ((off : Int) + (k : Int)))) (some (.int .i64 ((off : Int) + (k : Int))))).run Tryz.prog W = .ok (.slice A1 k k) W) ∧ Rd w ok 1 A1 k (bs ((t.drop off).take k)) :=
   ⟨_, fun W => by have := run_slice3 _ Tryz.underlying26 (size := 1) (by kernel_rfl) A n c off (off + k) (off + k) (by omega) (Nat.le_refl _) (by omega) W; rw [show (off + k) - off = k from by omega] at this; simpa using this, by simpa using hr.bsub (i := off) (k := k) (m := (off + k)) (by omega) (by omega)⟩
  have h6 : (((off : Int) + (k : Int)) == (n : Int)) = false := by simp; omega
  have hmn : min (n : Int) ((off : Int) + (k : Int)) = (off : Int) + (k : Int) := by omega
  go_enter Tryz.func169, Tryz.ntmps169
  go_wp2_with fail
  refine (clone_any A1 k k _ _ r1 (bs_one _) (by omega)).mono ?_
  rintro e w1 ⟨A2, c2, rfl, hown1, hb1⟩
  go_wp2_with fail
  go_ret3
  obtain ⟨A3, c3, e3, h7, _⟩ := own_form hown1
  injection e3 with e3 e4 e5
  exact ⟨A2, _, c2, rfl, Rd.of_own hown1, own_cpn hown1, hb1⟩
 ·subst h4'
  have h4' : (n : Int) = 0 := by simp at h4; omega
  obtain rfl : n = 0 := by omega
  have hx : bs t = [] := hr.nil_of_zero
  have ht : t = [] := by cases t with | nil => rfl | cons a b => simp [bs] at hx
  subst ht
  have hmn : min (0 : Int) (size : Int) = 0 := by omega
  have hmn2 : min (0 : Int) (0 + (size : Int)) = 0 := by omega
  go_enter Tryz.func169, Tryz.ntmps169
  go_wp2_with fail
  refine (clone_any A 0 0 [] _ (ok := T) ⟨rfl, fun h => absurd h (by omega)⟩ (by simp) (by omega)).mono ?_
  rintro e w1 ⟨A2, c2, rfl, hown1, hb1⟩
  go_wp2_with fail
  go_ret3
  exact ⟨A2, _, c2, rfl, by simpa [bs_nil] using Rd.of_own hown1, own_cpn hown1, hb1⟩
 ·obtain ⟨A1, e1, r1⟩ : ∃ A1, (∀ W, (Instr.sliceAt 26 (.slice A n c) (some (.int .i64 (off : Int))) (some (.int .i64 (n : Int))) (some (.int .i64 (n : Int)))).run Tryz.prog W = .ok (.slice A1 (n - off) (n - off)) W) ∧ Rd w ok 1 A1 (n - off) (bs ((t.drop off).take (n - off))) :=
   ⟨_, fun W => by have := run_slice3 _ Tryz.underlying26 (size := 1) (by kernel_rfl) A n c off n n (by omega) (Nat.le_refl _) (by omega) W; rw [show n - off = (n - off) from by omega] at this; simpa using this, by simpa using hr.bsub (i := off) (k := n - off) (m := n) (by omega) (by omega)⟩
  have h6 : ((n : Int) == (n : Int)) = true := by simp
  have hmn : min (n : Int) ((off : Int) + (size : Int)) = (n : Int) := by omega
  go_enter Tryz.func169, Tryz.ntmps169
  go_wp2_with fail
  refine (clone_any A1 (n - off) (n - off) _ _ r1 (bs_one _) (by omega)).mono ?_
  rintro e w1 ⟨A2, c2, rfl, hown1, hb1⟩
  go_wp2_with fail
  go_ret3
  obtain ⟨A3, c3, e3, h7, _⟩ := own_form hown1
  injection e3 with e3 e4 e5
  exact ⟨A2, _, c2, rfl, Rd.of_own hown1, own_cpn hown1, hb1⟩

theorem cutn_at (A : Option Addr) (n c : Nat) (t : List UInt8) (off size : Nat) (o s : Int) (w : World) {ok : Nat → Prop} (hr : Rd w ok 1 A n (bs t)) (hc : n ≤ c) (hn : n ≤ 2000000) (h1 : 1 ≤ size) (h2 : size ≤ 1048576)
  (h4 : off = n ∧ off = 0 ∨ off < n) (ho : o = off) (hs : s = size) :
  Calls Tryz.prog 169 #[.slice A n c, .int .i64 o, .int .i64 s] w (CutPostN w ((t.drop off).take size) (decide (n ≤ off + size))) := by
 subst ho hs
 have hl := hr.blen
 have h4' : ((off : Int) == n) = true ∧ off = 0 ∨ ((off : Int) == n) = false ∧ off < n := by
  rcases h4 with ⟨a, b⟩ | a
  ·exact .inl ⟨by simp; omega, b⟩
  ·exact .inr ⟨by simp; omega, a⟩
 by_cases h : off + size < n
 ·have := cutn_ok A n c t off size w hr hc hn h1 h2 h4' false size (.inl ⟨h, rfl, rfl⟩)
  rwa [show decide (n ≤ off + size) = false from by simp; omega]
 ·have := cutn_ok A n c t off size w hr hc hn h1 h2 h4' true (n - off) (.inr ⟨by omega, rfl, rfl⟩)
  rw [show decide (n ≤ off + size) = true from by simp; omega]
  have e : (t.drop off).take size = (t.drop off).take (n - off) := by
   rw [List.take_of_length_le (by simp; omega), List.take_of_length_le (by simp; omega)]
  rwa [e]

theorem cutn_badsize (A : Option Addr) (n c : Nat) (o s : Int) (w : World) (h : decide (s < 1) = true ∨ decide (s < 1) = false ∧ 1048576 < s) :
  Calls Tryz.prog 169 #[.slice A n c, .int .i64 o, .int .i64 s] w fun e w' => e = .returned (.tuple #[.slice none 0 0, .bool false, .iface 105 (.int .i64 1)]) ∧ w' = w := by
 rcases h with h | ⟨h, h'⟩
 all_goals
  go_enter Tryz.func169, Tryz.ntmps169
  go_wp2_with fail
  go_ret3
  exact ⟨rfl, rfl⟩
theorem cutn_badoff (A : Option Addr) (n c : Nat) (o s : Int) (w : World) (h : decide (s < 1) = false) (h' : s ≤ 1048576) (h2 : decide (o < 0) = true ∨ (decide (o < 0) = false ∧ decide ((n : Int) < o) = true) ∨ (decide (o < 0) = false ∧ decide ((n : Int) < o) = false ∧ (o == (n : Int)) = true ∧ 0 < o)) :
  Calls Tryz.prog 169 #[.slice A n c, .int .i64 o, .int .i64 s] w fun e w' => e = .returned (.tuple #[.slice none 0 0, .bool false, .iface 105 (.int .i64 4)]) ∧ w' = w := by
 rcases h2 with h2 | ⟨h2, h3⟩ | ⟨h2, h3, h4, h5⟩
 all_goals
  go_enter Tryz.func169, Tryz.ntmps169
  go_wp2_with fail
  go_ret3
  exact ⟨rfl, rfl⟩
def CutPostEN (W : World) (l : List UInt8) (last : Bool) (er : Value) (e : Ending) (w' : World) : Prop :=
 ∃ A n c, e = .returned (.tuple #[.slice A n c, .bool last, er]) ∧ Rd w' (W.heap.size ≤ ·) 1 A n (bs l) ∧ (n ≤ c ∧ c ≤ maxLen) ∧ Below W.heap.size W w'
def cutFN (t : List UInt8) (o s : Int) : List UInt8 × Bool × Int :=
 if s < 1 ∨ 1048576 < s then ([], false, 1)
 else if o < 0 ∨ (t.length : Int) < o ∨ (o = t.length ∧ 0 < o) then ([], false, 4)
 else ((t.drop o.toNat).take s.toNat, decide (t.length ≤ o.toNat + s.toNat), 0)
theorem cutn_any (A : Option Addr) (n c : Nat) (t : List UInt8) (o s : Int) (w : World) {ok : Nat → Prop} (hr : Rd w ok 1 A n (bs t)) (hc : n ≤ c) (hn : n ≤ 2000000) :
  Calls Tryz.prog 169 #[.slice A n c, .int .i64 o, .int .i64 s] w (CutPostEN w (cutFN t o s).1 (cutFN t o s).2.1 (errN (cutFN t o s).2.2)) := by
 have hl := hr.blen
 unfold cutFN
 by_cases h1 : s < 1 ∨ 1048576 < s
 ·rw [if_pos h1]
  have h2 : decide (s < 1) = true ∨ decide (s < 1) = false ∧ 1048576 < s := by
   by_cases h : s < 1
   ·exact .inl (by simpa using h)
   ·exact .inr ⟨by simpa using h, by omega⟩
  refine (cutn_badsize A n c o s w h2).mono ?_
  rintro e w' ⟨rfl, rfl⟩
  exact ⟨none, 0, 0, by simp [errN], Rd.none_, ⟨Nat.le_refl _, by simp [maxLen]⟩, Below.refl _ _⟩
 ·rw [if_neg h1]
  by_cases h2 : o < 0 ∨ (t.length : Int) < o ∨ (o = t.length ∧ 0 < o)
  ·rw [if_pos h2]
   have h3 : decide (o < 0) = true ∨ (decide (o < 0) = false ∧ decide ((n : Int) < o) = true) ∨ (decide (o < 0) = false ∧ decide ((n : Int) < o) = false ∧ (o == (n : Int)) = true ∧ 0 < o) := by
    by_cases h4 : o < 0
    ·exact .inl (by simpa using h4)
    ·by_cases h5 : (n : Int) < o
     ·exact .inr (.inl ⟨by simpa using h4, by simpa using h5⟩)
     ·exact .inr (.inr ⟨by simpa using h4, by simpa using h5, by simp; omega, by omega⟩)
   refine (cutn_badoff A n c o s w (by simp; omega) (by omega) h3).mono ?_
   rintro e w' ⟨rfl, rfl⟩
   exact ⟨none, 0, 0, by simp [errN], Rd.none_, ⟨Nat.le_refl _, by simp [maxLen]⟩, Below.refl _ _⟩
  ·rw [if_neg h2]
   refine (cutn_at A n c t o.toNat s.toNat o s w hr hc hn (by omega) (by omega) (by omega) (by omega) (by omega)).mono ?_
   rintro e w' ⟨A1, n1, c1, rfl, r1, hn1, hb⟩
   refine ⟨A1, n1, c1, ?_, r1, hn1, hb⟩
   simp only [errN, if_pos]
   rw [hl]
theorem Bx.set12 {W : World} {g : Nat} {o0 o1 o2 o3 o4 o5 o6 o7 o8 o9 o10 o11 : Value} (h : Bx W g #[o0, o1, o2, o3, o4, o5, o6, o7, o8, o9, o10, o11]) (a0 a1 a2 a3 a4 a5 a6 a7 a8 a9 a10 a11 : Value) : Bx ((((((((((((W.setCell ⟨g, 0, none⟩ a0).setCell ⟨g, 1, none⟩ a1).setCell ⟨g, 2, none⟩ a2).setCell ⟨g, 3, none⟩ a3).setCell ⟨g, 4, none⟩ a4).setCell ⟨g, 5, none⟩ a5).setCell ⟨g, 6, none⟩ a6).setCell ⟨g, 7, none⟩ a7).setCell ⟨g, 8, none⟩ a8).setCell ⟨g, 9, none⟩ a9).setCell ⟨g, 10, none⟩ a10).setCell ⟨g, 11, none⟩ a11) g #[a0, a1, a2, a3, a4, a5, a6, a7, a8, a9, a10, a11] := by
 have h1 : Bx (W.setCell ⟨g, 0, none⟩ a0) g #[a0, o1, o2, o3, o4, o5, o6, o7, o8, o9, o10, o11] := h.set 0 a0
 have h2 : Bx ((W.setCell ⟨g, 0, none⟩ a0).setCell ⟨g, 1, none⟩ a1) g #[a0, a1, o2, o3, o4, o5, o6, o7, o8, o9, o10, o11] := h1.set 1 a1
 have h3 : Bx (((W.setCell ⟨g, 0, none⟩ a0).setCell ⟨g, 1, none⟩ a1).setCell ⟨g, 2, none⟩ a2) g #[a0, a1, a2, o3, o4, o5, o6, o7, o8, o9, o10, o11] := h2.set 2 a2
 have h4 : Bx ((((W.setCell ⟨g, 0, none⟩ a0).setCell ⟨g, 1, none⟩ a1).setCell ⟨g, 2, none⟩ a2).setCell ⟨g, 3, none⟩ a3) g #[a0, a1, a2, a3, o4, o5, o6, o7, o8, o9, o10, o11] := h3.set 3 a3
 have h5 : Bx (((((W.setCell ⟨g, 0, none⟩ a0).setCell ⟨g, 1, none⟩ a1).setCell ⟨g, 2, none⟩ a2).setCell ⟨g, 3, none⟩ a3).setCell ⟨g, 4, none⟩ a4) g #[a0, a1, a2, a3, a4, o5, o6, o7, o8, o9, o10, o11] := h4.set 4 a4
 have h6 : Bx ((((((W.setCell ⟨g, 0, none⟩ a0).setCell ⟨g, 1, none⟩ a1).setCell ⟨g, 2, none⟩ a2).setCell ⟨g, 3, none⟩ a3).setCell ⟨g, 4, none⟩ a4).setCell ⟨g, 5, none⟩ a5) g #[a0, a1, a2, a3, a4, a5, o6, o7, o8, o9, o10, o11] := h5.set 5 a5
 have h7 : Bx (((((((W.setCell ⟨g, 0, none⟩ a0).setCell ⟨g, 1, none⟩ a1).setCell ⟨g, 2, none⟩ a2).setCell ⟨g, 3, none⟩ a3).setCell ⟨g, 4, none⟩ a4).setCell ⟨g, 5, none⟩ a5).setCell ⟨g, 6, none⟩ a6) g #[a0, a1, a2, a3, a4, a5, a6, o7, o8, o9, o10, o11] := h6.set 6 a6
 have h8 : Bx ((((((((W.setCell ⟨g, 0, none⟩ a0).setCell ⟨g, 1, none⟩ a1).setCell ⟨g, 2, none⟩ a2).setCell ⟨g, 3, none⟩ a3).setCell ⟨g, 4, none⟩ a4).setCell ⟨g, 5, none⟩ a5).setCell ⟨g, 6, none⟩ a6).setCell ⟨g, 7, none⟩ a7) g #[a0, a1, a2, a3, a4, a5, a6, a7, o8, o9, o10, o11] := h7.set 7 a7
 have h9 : Bx (((((((((W.setCell ⟨g, 0, none⟩ a0).setCell ⟨g, 1, none⟩ a1).setCell ⟨g, 2, none⟩ a2).setCell ⟨g, 3, none⟩ a3).setCell ⟨g, 4, none⟩ a4).setCell ⟨g, 5, none⟩ a5).setCell ⟨g, 6, none⟩ a6).setCell ⟨g, 7, none⟩ a7).setCell ⟨g, 8, none⟩ a8) g #[a0, a1, a2, a3, a4, a5, a6, a7, a8, o9, o10, o11] := h8.set 8 a8
 have h10 : Bx ((((((((((W.setCell ⟨g, 0, none⟩ a0).setCell ⟨g, 1, none⟩ a1).setCell ⟨g, 2, none⟩ a2).setCell ⟨g, 3, none⟩ a3).setCell ⟨g, 4, none⟩ a4).setCell ⟨g, 5, none⟩ a5).setCell ⟨g, 6, none⟩ a6).setCell ⟨g, 7, none⟩ a7).setCell ⟨g, 8, none⟩ a8).setCell ⟨g, 9, none⟩ a9) g #[a0, a1, a2, a3, a4, a5, a6, a7, a8, a9, o10, o11] := h9.set 9 a9
 have h11 : Bx (((((((((((W.setCell ⟨g, 0, none⟩ a0).setCell ⟨g, 1, none⟩ a1).setCell ⟨g, 2, none⟩ a2).setCell ⟨g, 3, none⟩ a3).setCell ⟨g, 4, none⟩ a4).setCell ⟨g, 5, none⟩ a5).setCell ⟨g, 6, none⟩ a6).setCell ⟨g, 7, none⟩ a7).setCell ⟨g, 8, none⟩ a8).setCell ⟨g, 9, none⟩ a9).setCell ⟨g, 10, none⟩ a10) g #[a0, a1, a2, a3, a4, a5, a6, a7, a8, a9, a10, o11] := h10.set 10 a10
 have h12 : Bx ((((((((((((W.setCell ⟨g, 0, none⟩ a0).setCell ⟨g, 1, none⟩ a1).setCell ⟨g, 2, none⟩ a2).setCell ⟨g, 3, none⟩ a3).setCell ⟨g, 4, none⟩ a4).setCell ⟨g, 5, none⟩ a5).setCell ⟨g, 6, none⟩ a6).setCell ⟨g, 7, none⟩ a7).setCell ⟨g, 8, none⟩ a8).setCell ⟨g, 9, none⟩ a9).setCell ⟨g, 10, none⟩ a10).setCell ⟨g, 11, none⟩ a11) g #[a0, a1, a2, a3, a4, a5, a6, a7, a8, a9, a10, a11] := h11.set 11 a11
 exact h12
theorem keep12 {W : World} {g b : Nat} (hb : b ≠ g) (a0 a1 a2 a3 a4 a5 a6 a7 a8 a9 a10 a11 : Value) : ((((((((((((W.setCell ⟨g, 0, none⟩ a0).setCell ⟨g, 1, none⟩ a1).setCell ⟨g, 2, none⟩ a2).setCell ⟨g, 3, none⟩ a3).setCell ⟨g, 4, none⟩ a4).setCell ⟨g, 5, none⟩ a5).setCell ⟨g, 6, none⟩ a6).setCell ⟨g, 7, none⟩ a7).setCell ⟨g, 8, none⟩ a8).setCell ⟨g, 9, none⟩ a9).setCell ⟨g, 10, none⟩ a10).setCell ⟨g, 11, none⟩ a11).heap[b]? = W.heap[b]? := by
 iterate 12 refine (Below.heap_setCell _ _ _ b (by exact hb)).trans ?_
 rfl
theorem Bx.c12 {W : World} {g : Nat} {a0 a1 a2 a3 a4 a5 a6 a7 a8 a9 a10 a11 : Value} (h : Bx W g #[a0, a1, a2, a3, a4, a5, a6, a7, a8, a9, a10, a11]) : W.cell? ⟨g, 0, none⟩ = some a0 ∧ W.cell? ⟨g, 1, none⟩ = some a1 ∧ W.cell? ⟨g, 2, none⟩ = some a2 ∧ W.cell? ⟨g, 3, none⟩ = some a3 ∧ W.cell? ⟨g, 4, none⟩ = some a4 ∧ W.cell? ⟨g, 5, none⟩ = some a5 ∧ W.cell? ⟨g, 6, none⟩ = some a6 ∧ W.cell? ⟨g, 7, none⟩ = some a7 ∧ W.cell? ⟨g, 8, none⟩ = some a8 ∧ W.cell? ⟨g, 9, none⟩ = some a9 ∧ W.cell? ⟨g, 10, none⟩ = some a10 ∧ W.cell? ⟨g, 11, none⟩ = some a11 :=
 ⟨h.c 0, h.c 1, h.c 2, h.c 3, h.c 4, h.c 5, h.c 6, h.c 7, h.c 8, h.c 9, h.c 10, h.c 11⟩
theorem Bx.f12 {W : World} {g : Nat} {cs : Array Value} (h : Bx W g cs) : W.frozen? ⟨g, 0, none⟩ = false ∧ W.frozen? ⟨g, 1, none⟩ = false ∧ W.frozen? ⟨g, 2, none⟩ = false ∧ W.frozen? ⟨g, 3, none⟩ = false ∧ W.frozen? ⟨g, 4, none⟩ = false ∧ W.frozen? ⟨g, 5, none⟩ = false ∧ W.frozen? ⟨g, 6, none⟩ = false ∧ W.frozen? ⟨g, 7, none⟩ = false ∧ W.frozen? ⟨g, 8, none⟩ = false ∧ W.frozen? ⟨g, 9, none⟩ = false ∧ W.frozen? ⟨g, 10, none⟩ = false ∧ W.frozen? ⟨g, 11, none⟩ = false :=
 ⟨h.f 0, h.f 1, h.f 2, h.f 3, h.f 4, h.f 5, h.f 6, h.f 7, h.f 8, h.f 9, h.f 10, h.f 11⟩
def Off (B : Nat) (W0 W : World) : Prop := ∀ b, b ≠ B → b < W0.heap.size → W.heap[b]? = W0.heap[b]?
section
variable {B : Nat} {W0 W W' : World}
theorem Off.refl (B : Nat) (W : World) : Off B W W := fun _ _ _ => rfl
theorem Off.drew (h : Off B W0 W) : Off B W0 W.drew := h
theorem Off.set (h : Off B W0 W) (i : Nat) (v : Value) : Off B W0 (W.setCell ⟨B, i, none⟩ v) := fun b hb hl => (Below.heap_setCell W _ v b hb).trans (h b hb hl)
theorem Off.below (h : Off B W0 W) (hb : Below W.heap.size W W') (hz : W0.heap.size ≤ W.heap.size) : Off B W0 W' := fun b h1 h2 => (hb.block b (by omega)).trans (h b h1 h2)
theorem Off.bx {g : Nat} {cs : Array Value} (h : Off B W0 W) (hx : Bx W0 g cs) (hg : g ≠ B) : Bx W g cs := hx.keep (h g hg hx.lt)
end
def SayPost (W : World) (M : Ms) (e : Ending) (w' : World) : Prop := ∃ x : Mr, e = .returned x.val ∧ x.ms = M ∧ x.At w' (W.heap.size ≤ ·) ∧ Below W.heap.size W w'
set_option maxHeartbeats 12800000 in
theorem send_any {fb p : Nat} {w : World} {V U : Nat → Prop} {C : Cr} {m : Mb} {k : Nat} (who : Int) (h : CX fb w p V U C m) (ho : C.Ok k) (he : Env fb w) (hw : 1 ≤ who ∧ who ≤ 64) :
  Calls Tryz.prog 108 #[.pointer (some ⟨p, 0, none⟩), .int .i64 who] w (SayPost w (C.send who)) := by
 have hf := h.fit ho
 have hlast := ho.last
 have hq := ho.of who
 obtain ⟨W0, hW0⟩ : ∃ W0, W0 = w.alloc (.cells #[.int .i64 0, .int .i64 0, .int .i64 0, .int .i64 0, .int .i64 0, .int .i64 0, .int .i64 0, .int .i64 0, .bool false, .int .i64 0, .slice none 0 0, .slice none 0 0] 78) := ⟨_, rfl⟩
 have hb0 : Below w.heap.size w W0 := by subst hW0; exact (Below.refl _ _).alloc (Nat.le_refl _) _
 have x0 : Bx W0 w.heap.size #[.int .i64 0, .int .i64 0, .int .i64 0, .int .i64 0, .int .i64 0, .int .i64 0, .int .i64 0, .int .i64 0, .bool false, .int .i64 0, .slice none 0 0, .slice none 0 0] := by subst hW0; exact Bx.new _ _ _ rfl
 have hz0 : W0.heap.size = w.heap.size + 1 := by subst hW0; simp
 have hof := of_any who (h.below hb0) hf ho.may (by unfold I64; omega) (by omega) (by omega)
 have hsay := fun W (hb : Below w.heap.size w W) => say_any 3 who (h.below hb)
 have hterm := fun ix W (hb : Below w.heap.size w W) => h.term hf ix W hb
 have hfrom := fun ix W (hb : Below w.heap.size w W) => from_any m.s.b m.s.t ix 16 m.s.A m.s.n m.s.c m.s.L W (h.below hb).at_.l.any (h.below hb).at_.dat (fun x hx => (hf.w x hx).2) (h.at_.wel hf) hf.z.1 h.at_.k1.1 h.at_.k1.2
 have hhand := fun W (hb : Below w.heap.size w W) => handed_any (h.below hb) ho (he.new hb)
 have hhl := handed_len ho
 obtain ⟨e1, e2, e3, e4, e5, e6, e7⟩ := h.s_eq
 have hlm := h.lm ho.may
 have hbase := (St.may_iff ho.may).2.2.1
 have HP : ∀ W, Below w.heap.size w W → W.cell? ⟨p, 2, none⟩ = some (.int .i64 m.s.b) ∧ W.cell? ⟨p, 3, none⟩ = some (.int .i64 m.s.t) ∧ W.cell? ⟨p, 4, none⟩ = some (.slice m.s.A m.s.n m.s.c) ∧ W.cell? ⟨p, 9, none⟩ = some (.int .i64 C.commit) ∧ W.cell? ⟨p, 10, none⟩ = some (.int .i64 C.round) := fun W hb =>
  ⟨(h.below hb).bx.c 2, (h.below hb).bx.c 3, (h.below hb).bx.c 4, (h.below hb).bx.c 9, (h.below hb).bx.c 10⟩
 have hpl := h.bx.lt
 obtain ⟨q, hqe⟩ : ∃ q, C.of who = q := ⟨_, rfl⟩
 rw [hqe] at hof hq
 -- what is to be told
 have hsend : C.send who = if m.s.b < q.nx then { C.say 3 who with rd := C.round, ix := q.nx - 1, cm := C.commit, lt := (C.termOf (q.nx - 1)).2, es := fromL m.s.b m.s.t (m.s.L.map en) q.nx 16 } else { C.say 5 who with rd := C.round, ix := m.s.b, lt := m.s.t, off := q.of, data := (C.pieceOf q.of).1, ok := (C.pieceOf q.of).2 } := by
  unfold Cr.send
  rw [hqe, e3, e4]
  split
  ·rename_i hlt
   unfold fromL
   rw [← e3, ← e4, if_pos ⟨hlm, by rw [e3]; exact hlt⟩, e5]
   rfl
  ·rfl
 have HW0 := Lib.hid hW0
 have KH := Lib.hid (And.intro hb0 (And.intro x0 (And.intro hz0 (And.intro hsend (And.intro hq (And.intro hpl (And.intro hbase hhl)))))))
 have Hof := Lib.hid hof
 have Hsay := Lib.hid hsay
 have Hterm := Lib.hid hterm
 have Hfrom := Lib.hid hfrom
 have Hhand := Lib.hid hhand
 have HHP := Lib.hid HP
 have E := Lib.hid (And.intro e3 e4)
 have Hq1 : I64 q.nx := by unfold I64; have := hq.nx; omega
 have wq : IntKind.i64.wrap (q.nx - 1) = q.nx - 1 := by rw [IntKind.wrap_i64]; have := hq.nx; omega
 clear hf hlast hq hW0 hb0 x0 hz0 hof hsay hterm hfrom hhand hhl e1 e2 e3 e4 e5 e6 e7 hlm hbase HP hpl hqe hsend h ho he Hq1
 go_enter Tryz.func108, Tryz.ntmps108
 go_upto_region 1 with (fail)
 rw [← HW0.out]
 go_wp2_with fail
 refine Hof.out.mono ?_
 rintro e w1 ⟨rfl, hb1⟩
 have hb1' : Below w.heap.size w w1 := KH.out.1.trans (hb1.mono KH.out.1.size)
 have hz1 := hb1.size
 unfold peV
 go_upto_region 2 with (fail)
 obtain ⟨W2, hW2⟩ : ∃ W2, W2 = w1.alloc (.cells #[.int .i64 q.nx, .int .i64 q.mt, .int .i64 q.of, .int .i64 q.rd] 130) := ⟨_, rfl⟩
 have y2 : Bx W2 w1.heap.size #[.int .i64 q.nx, .int .i64 q.mt, .int .i64 q.of, .int .i64 q.rd] := by subst hW2; exact Bx.new w1 _ 130 rfl
 have b2 : Below w1.heap.size w1 W2 := by subst hW2; exact (Below.refl _ _).alloc (Nat.le_refl _) _
 have hz2 : W2.heap.size = w1.heap.size + 1 := by subst hW2; simp
 have hb2 : Below w.heap.size w W2 := hb1'.trans (b2.mono hb1'.size)
 rw [← hW2]
 have K2 := Lib.hid (And.intro y2 (And.intro b2 (And.intro hz2 (And.intro hb2 (And.intro hb1 hz1)))))
 clear hW2 y2 b2 hz2 hb2 hb1 hb1' hz1
 go_wp2_with fail
 refine (Hsay.out W2 K2.out.2.2.2.1).mono ?_
 rintro e w3 ⟨rfl, hb3⟩
 unfold Mr.val Cr.sayM
 dsimp only
 go_upto_region 3 with (fail)
 obtain ⟨W4, hW4⟩ : ∃ W4, W4 = w3.alloc (.cells #[.int .i64 3, .int .i64 C.id, .int .i64 who, .int .i64 C.s.tm, .int .i64 0, .int .i64 0, .int .i64 0, .int .i64 0, .bool false, .int .i64 0, .slice none 0 0, .slice none 0 0] 78) := ⟨_, rfl⟩
 have z4 : Bx W4 w3.heap.size #[.int .i64 3, .int .i64 C.id, .int .i64 who, .int .i64 C.s.tm, .int .i64 0, .int .i64 0, .int .i64 0, .int .i64 0, .bool false, .int .i64 0, .slice none 0 0, .slice none 0 0] := by subst hW4; exact Bx.new w3 _ 78 rfl
 have b4 : Below w3.heap.size w3 W4 := by subst hW4; exact (Below.refl _ _).alloc (Nat.le_refl _) _
 have hz4 : W4.heap.size = w3.heap.size + 1 := by subst hW4; simp
 have y4 : Bx W4 w1.heap.size #[.int .i64 q.nx, .int .i64 q.mt, .int .i64 q.of, .int .i64 q.rd] := (K2.out.1.below hb3).below b4
 have hzs : w.heap.size + 1 ≤ w1.heap.size ∧ w1.heap.size + 1 ≤ w3.heap.size := by
  have := hb3.size
  have := K2.out.2.2.1
  have := K2.out.2.2.2.2.2
  have := KH.out.2.2.1
  omega
 have hb4 : Below w.heap.size w W4 := (K2.out.2.2.2.1.trans (hb3.mono K2.out.2.2.2.1.size)).trans (b4.mono (by omega))
 have x4 : Bx W4 w.heap.size #[.int .i64 0, .int .i64 0, .int .i64 0, .int .i64 0, .int .i64 0, .int .i64 0, .int .i64 0, .int .i64 0, .bool false, .int .i64 0, .slice none 0 0, .slice none 0 0] := (((KH.out.2.1.below K2.out.2.2.2.2.1).below K2.out.2.1).below hb3).below b4
 rw [← hW4]
 have c10 := (HHP.out W4 hb4).2.2.2.2
 have f7 := z4.f 7
 have g7 : W4.cell? ⟨w3.heap.size, 7, none⟩ = some (.int .i64 0) := z4.c 7
 have K4 := Lib.hid (And.intro z4 (And.intro hz4 (And.intro y4 (And.intro hzs (And.intro hb4 x4)))))
 clear hW4 z4 b4 hz4 y4 hzs hb4 x4 hb3 K2
 go_upto_region 4 with (fail)
 obtain ⟨W5, hW5⟩ : ∃ W5, W5 = W4.setCell ⟨w3.heap.size, 7, none⟩ (.int .i64 C.round) := ⟨_, rfl⟩
 have z5 : Bx W5 w3.heap.size #[.int .i64 3, .int .i64 C.id, .int .i64 who, .int .i64 C.s.tm, .int .i64 0, .int .i64 0, .int .i64 0, .int .i64 C.round, .bool false, .int .i64 0, .slice none 0 0, .slice none 0 0] := by subst hW5; exact K4.out.1.set 7 _
 have hzs := K4.out.2.2.2.1
 have y5 : Bx W5 w1.heap.size #[.int .i64 q.nx, .int .i64 q.mt, .int .i64 q.of, .int .i64 q.rd] := by subst hW5; exact K4.out.2.2.1.far (by show w1.heap.size ≠ w3.heap.size; omega) _
 have x5 : Bx W5 w.heap.size #[.int .i64 0, .int .i64 0, .int .i64 0, .int .i64 0, .int .i64 0, .int .i64 0, .int .i64 0, .int .i64 0, .bool false, .int .i64 0, .slice none 0 0, .slice none 0 0] := by subst hW5; exact K4.out.2.2.2.2.2.far (by show w.heap.size ≠ w3.heap.size; omega) _
 have hb5 : Below w.heap.size w W5 := by subst hW5; exact K4.out.2.2.2.2.1.setCell (by show w.heap.size ≤ w3.heap.size; omega) _
 have hz5 : W5.heap.size = w3.heap.size + 1 := by subst hW5; simp [World.setCell]; exact K4.out.2.1
 rw [← hW5]
 clear hW5 c10 f7 g7 K4
 -- what is loaded, while block w3.heap.size is written
 have hpw : p < w.heap.size := KH.out.2.2.2.2.2.1
 have FP : ∀ W, Off w3.heap.size W5 W → W.cell? ⟨p, 2, none⟩ = some (.int .i64 m.s.b) ∧ W.cell? ⟨p, 3, none⟩ = some (.int .i64 m.s.t) ∧ W.cell? ⟨p, 4, none⟩ = some (.slice m.s.A m.s.n m.s.c) ∧ W.cell? ⟨p, 9, none⟩ = some (.int .i64 C.commit) ∧ W.cell? ⟨w1.heap.size, 0, none⟩ = some (.int .i64 q.nx) ∧ W.cell? ⟨w1.heap.size, 2, none⟩ = some (.int .i64 q.of) := fun W hW => by
  obtain ⟨a1, a2, a3, a4, _⟩ := HHP.out W5 hb5
  have hk : ∀ i, W.cell? ⟨p, i, none⟩ = W5.cell? ⟨p, i, none⟩ := fun i => World.cell?_of_block (hW p (by omega) (by omega))
  have hy := hW.bx y5 (by omega)
  exact ⟨(hk 2).trans a1, (hk 3).trans a2, (hk 4).trans a3, (hk 9).trans a4, hy.c 0, hy.c 2⟩
 have FF := Lib.hid FP
 have K5 := Lib.hid (And.intro z5 (And.intro y5 (And.intro x5 (And.intro hb5 (And.intro hz5 (And.intro hzs hpw))))))
 obtain ⟨c2, c3, c4, c9, y0, y2⟩ := FP W5 (Off.refl _ _)
 clear z5 y5 x5 hb5 hz5 hzs hpw FP
 by_cases hlt : m.s.b < q.nx
 ·have zc4 : W5.cell? ⟨w3.heap.size, 4, none⟩ = some (.int .i64 0) := K5.out.1.c 4
  have zc6 : W5.cell? ⟨w3.heap.size, 6, none⟩ = some (.int .i64 0) := K5.out.1.c 6
  have zf4 : W5.frozen? ⟨w3.heap.size, 4, none⟩ = false := K5.out.1.f 4
  have zf6 : W5.frozen? ⟨w3.heap.size, 6, none⟩ = false := K5.out.1.f 6
  go_region
  go_upto_region 5 with (fail)
  clear c2 c3 c4 c9 y0 y2
  refine wp_region_S 11 (fun W => Off w3.heap.size W5 W) (.take 0 (.take 1 (.take 2 (.take 3 (.take 4 (.take 5 (.take 6 (.take 7 (.take 8 (.one 9 (.take 10 (.one 11 (.nil))))))))))))) (by kernel_rfl) (Off.refl _ _).drew.drew (fun _ _ _ _ h => h) (fun hS => ?_)
  repeat (first
   | (refine wpS_take (v := ?_) rfl rfl (by rfl) ?_ ?_; rotate_left; (intro W hW; have hf := FF.out W hW; go_split_ands; go_simp; try with_reducible rfl); try simp only [Act.put, lyA, lyB, lyC])
   | (refine wpS_skip rfl rfl (by rfl) ?_; try simp only [Act.put, lyA, lyB, lyC]))
  refine wpS_one rfl (by rfl) (fun K hK => ?_)
  go_simp
  refine hK (fun W => Off w3.heap.size W5 W) _ _ (fun _ h => h) ((Off.refl _ _).drew.drew.set 4 _) ?_
  clear hK K
  try simp only [Act.put, lyA, lyB, lyC]
  repeat (first
   | (refine wpS_take (v := ?_) rfl rfl (by rfl) ?_ ?_; rotate_left; (intro W hW; have hf := FF.out W hW; go_split_ands; go_simp; try with_reducible rfl); try simp only [Act.put, lyA, lyB, lyC])
   | (refine wpS_skip rfl rfl (by rfl) ?_; try simp only [Act.put, lyA, lyB, lyC]))
  refine wpS_last rfl (by rfl) (fun K hK => ?_)
  go_simp
  refine hK _ _ ?_
  clear hK K
  try simp only [Act.put, lyA, lyB, lyC]
  refine wpS_nil ?_
  obtain ⟨W6, hW6⟩ : ∃ W6, W6 = ((W5.setCell ⟨w3.heap.size, 4, none⟩ (.int .i64 (q.nx - 1))).setCell ⟨w3.heap.size, 6, none⟩ (.int .i64 C.commit)).drew.drew := ⟨_, rfl⟩
  have z6 : Bx W6 w3.heap.size #[.int .i64 3, .int .i64 C.id, .int .i64 who, .int .i64 C.s.tm, .int .i64 (q.nx - 1), .int .i64 0, .int .i64 C.commit, .int .i64 C.round, .bool false, .int .i64 0, .slice none 0 0, .slice none 0 0] := by subst hW6; exact ((K5.out.1.set 4 _).set 6 _).drew.drew
  have o6 : Off w3.heap.size W5 W6 := by subst hW6; exact (((Off.refl _ _).set 4 _).set 6 _).drew.drew
  have hz6 : W6.heap.size = W5.heap.size := by subst hW6; simp [World.setCell, World.drew]
  have hb6 : Below w.heap.size w W6 := by subst hW6; exact ((K5.out.2.2.2.1.setCell (by show w.heap.size ≤ w3.heap.size; have := K5.out.2.2.2.2.2.1; omega) _).setCell (by show w.heap.size ≤ w3.heap.size; have := K5.out.2.2.2.2.2.1; omega) _).drew.drew
  rw [← hW6]
  have K6 := Lib.hid (And.intro z6 (And.intro o6 (And.intro hz6 hb6)))
  have FF6 : Hid (∀ W, (Off w3.heap.size W6 W ∧ W.cell? ⟨w3.heap.size, 4, none⟩ = some (.int .i64 (q.nx - 1))) → W.cell? ⟨p, 2, none⟩ = some (.int .i64 m.s.b) ∧ W.cell? ⟨p, 3, none⟩ = some (.int .i64 m.s.t) ∧ W.cell? ⟨p, 4, none⟩ = some (.slice m.s.A m.s.n m.s.c) ∧ W.cell? ⟨w1.heap.size, 0, none⟩ = some (.int .i64 q.nx) ∧ W.cell? ⟨w3.heap.size, 4, none⟩ = some (.int .i64 (q.nx - 1))) := Lib.hid fun W hW => by
   have hoff : Off w3.heap.size W5 W := fun b h1 h2 => (hW.1 b h1 (by rw [K6.out.2.2.1]; exact h2)).trans (K6.out.2.1 b h1 h2)
   obtain ⟨a1, a2, a3, a4, a5, a6⟩ := FF.out W hoff
   exact ⟨a1, a2, a3, a5, hW.2⟩
  clear hW6 z6 o6 hz6 hb6 zc4 zc6 zf4 zf6
  go_upto_region 6 with (fail)
  refine wp_region_S 13 (fun W => Off w3.heap.size W6 W ∧ W.cell? ⟨w3.heap.size, 4, none⟩ = some (.int .i64 (q.nx - 1))) (.take 0 (.take 1 (.take 2 (.take 3 (.take 4 (.take 5 (.take 6 (.one 7 (.take 8 (.take 9 (.take 10 (.take 11 (.one 12 (.nil)))))))))))))) (by kernel_rfl) ⟨(Off.refl _ _).drew, K6.out.1.c 4⟩ (fun _ _ _ _ h => h) (fun hS => ?_)
  repeat (first
   | (refine wpS_take (v := ?_) rfl rfl (by rfl) ?_ ?_; rotate_left; (intro W hW; have hf := FF6.out W hW; go_split_ands; go_simp; try with_reducible rfl); try simp only [Act.put, lyA, lyB, lyC])
   | (refine wpS_skip rfl rfl (by rfl) ?_; try simp only [Act.put, lyA, lyB, lyC]))
  refine wpS_one rfl (by rfl) (fun K hK => ?_)
  go_simp
  go_at_call 119
  refine (Hterm.out (q.nx - 1) _ K6.out.2.2.2.drew).mono ?_
  rintro e w7 ⟨rfl, hb7⟩
  have hb7' : Below W6.heap.size W6 w7 := (Below.refl _ _).drew.trans hb7
  have z7 := K6.out.1.below hb7'
  have q5 : w7.cell? ⟨w3.heap.size, 5, none⟩ = some (.int .i64 0) := z7.c 5
  have p5 := z7.f 5
  have Z7 := Lib.hid (And.intro z7 hb7')
  clear z7 hb7 hb7'
  refine hK (fun W => Off w3.heap.size W6 W ∧ W.cell? ⟨w3.heap.size, 4, none⟩ = some (.int .i64 (q.nx - 1))) _ _ (fun _ h => h) ⟨(Off.refl _ _).below Z7.out.2 (Nat.le_refl _), Z7.out.1.c 4⟩ ?_
  clear hK K
  try simp only [Act.put, lyA, lyB, lyC]
  repeat (first
   | (refine wpS_take (v := ?_) rfl rfl (by rfl) ?_ ?_; rotate_left; (intro W hW; have hf := FF6.out W hW; go_split_ands; go_simp; try with_reducible rfl); try simp only [Act.put, lyA, lyB, lyC])
   | (refine wpS_skip rfl rfl (by rfl) ?_; try simp only [Act.put, lyA, lyB, lyC]))
  refine wpS_one rfl (by rfl) (fun K hK => ?_)
  go_simp
  refine hK (fun W => Off w3.heap.size W6 W ∧ W.cell? ⟨w3.heap.size, 4, none⟩ = some (.int .i64 (q.nx - 1))) _ _ (fun _ h => h) ⟨((Off.refl _ _).below Z7.out.2 (Nat.le_refl _)).set 5 _, (Z7.out.1.set 5 _).c 4⟩ ?_
  clear hK K
  try simp only [Act.put, lyA, lyB, lyC]
  refine wpS_nil ?_
  obtain ⟨W8, hW8⟩ : ∃ W8, W8 = w7.setCell ⟨w3.heap.size, 5, none⟩ (.int .i64 (C.termOf (q.nx - 1)).2) := ⟨_, rfl⟩
  have z8 : Bx W8 w3.heap.size #[.int .i64 3, .int .i64 C.id, .int .i64 who, .int .i64 C.s.tm, .int .i64 (q.nx - 1), .int .i64 (C.termOf (q.nx - 1)).2, .int .i64 C.commit, .int .i64 C.round, .bool false, .int .i64 0, .slice none 0 0, .slice none 0 0] := by subst hW8; exact Z7.out.1.set 5 _
  have o8 : Off w3.heap.size W6 W8 := by subst hW8; exact ((Off.refl _ _).below Z7.out.2 (Nat.le_refl _)).set 5 _
  have hz8 : W6.heap.size ≤ W8.heap.size := by subst hW8; simpa [World.setCell] using Z7.out.2.size
  have hb8 : Below w.heap.size w W8 := by subst hW8; exact (K6.out.2.2.2.trans (Z7.out.2.mono K6.out.2.2.2.size)).setCell (by show w.heap.size ≤ w3.heap.size; have := K5.out.2.2.2.2.2.1; omega) _
  rw [← hW8]
  have K8 := Lib.hid (And.intro z8 (And.intro o8 (And.intro hz8 hb8)))
  have FF8 : Hid (∀ W, Off w3.heap.size W8 W → W.cell? ⟨p, 2, none⟩ = some (.int .i64 m.s.b) ∧ W.cell? ⟨p, 3, none⟩ = some (.int .i64 m.s.t) ∧ W.cell? ⟨p, 4, none⟩ = some (.slice m.s.A m.s.n m.s.c) ∧ W.cell? ⟨w1.heap.size, 0, none⟩ = some (.int .i64 q.nx)) := Lib.hid fun W hW => by
   have hoff : Off w3.heap.size W5 W := fun b h1 h2 => (hW b h1 (by have := K8.out.2.2.1; rw [K6.out.2.2.1] at this; omega)).trans ((K8.out.2.1 b h1 (by rw [K6.out.2.2.1]; exact h2)).trans (K6.out.2.1 b h1 h2))
   obtain ⟨a1, a2, a3, a4, a5, a6⟩ := FF.out W hoff
   exact ⟨a1, a2, a3, a5⟩
  clear hW8 z8 o8 hz8 hb8 q5 p5 Z7
  go_upto_region 7 with (fail)
  refine wp_region_S 9 (fun W => Off w3.heap.size W8 W) (.take 0 (.take 1 (.take 2 (.take 3 (.take 4 (.take 5 (.take 6 (.one 7 (.take 8 (.one 9 (.nil))))))))))) (by kernel_rfl) (Off.refl _ _).drew (fun _ _ _ _ h => h) (fun hS => ?_)
  repeat (first
   | (refine wpS_take (v := ?_) rfl rfl (by rfl) ?_ ?_; rotate_left; (intro W hW; have hf := FF8.out W hW; go_split_ands; go_simp; try with_reducible rfl); try simp only [Act.put, lyA, lyB, lyC])
   | (refine wpS_skip rfl rfl (by rfl) ?_; try simp only [Act.put, lyA, lyB, lyC]))
  refine wpS_one rfl (by rfl) (fun K hK => ?_)
  go_simp
  go_at_call 168
  refine (Hfrom.out q.nx _ K8.out.2.2.2.drew).mono ?_
  intro e w9 h9
  obtain ⟨A9, n9, c9, L9, rfl, r9, e9, hb9⟩ := h9
  have hb9' : Below W8.heap.size W8 w9 := (Below.refl _ _).drew.trans hb9
  have z9 := K8.out.1.below hb9'
  have q11 : w9.cell? ⟨w3.heap.size, 11, none⟩ = some (.slice none 0 0) := z9.c 11
  have p11 := z9.f 11
  have Z9 := Lib.hid (And.intro z9 (And.intro hb9' (And.intro r9 e9)))
  clear z9 hb9 hb9' r9 e9
  refine hK (fun W => Off w3.heap.size W8 W) _ _ (fun _ h => h) ((Off.refl _ _).below Z9.out.2.1 (Nat.le_refl _)) ?_
  clear hK K
  try simp only [Act.put, lyA, lyB, lyC]
  repeat (first
   | (refine wpS_take (v := ?_) rfl rfl (by rfl) ?_ ?_; rotate_left; (intro W hW; have hf := FF8.out W hW; go_split_ands; go_simp; try with_reducible rfl); try simp only [Act.put, lyA, lyB, lyC])
   | (refine wpS_skip rfl rfl (by rfl) ?_; try simp only [Act.put, lyA, lyB, lyC]))
  refine wpS_last rfl (by rfl) (fun K hK => ?_)
  go_simp
  refine hK _ _ ?_
  clear hK K
  try simp only [Act.put, lyA, lyB, lyC]
  refine wpS_nil ?_
  have hne0 : w.heap.size ≠ w3.heap.size := by have := K5.out.2.2.2.2.2.1; omega
  obtain ⟨W10, hW10⟩ : ∃ W10, W10 = w9.setCell ⟨w3.heap.size, 11, none⟩ (.slice A9 n9 c9) := ⟨_, rfl⟩
  have z10 : Bx W10 w3.heap.size #[.int .i64 3, .int .i64 C.id, .int .i64 who, .int .i64 C.s.tm, .int .i64 (q.nx - 1), .int .i64 (C.termOf (q.nx - 1)).2, .int .i64 C.commit, .int .i64 C.round, .bool false, .int .i64 0, .slice none 0 0, .slice A9 n9 c9] := by subst hW10; exact (Z9.out.1).set 11 _
  have x10 : Bx W10 w.heap.size #[.int .i64 0, .int .i64 0, .int .i64 0, .int .i64 0, .int .i64 0, .int .i64 0, .int .i64 0, .int .i64 0, .bool false, .int .i64 0, .slice none 0 0, .slice none 0 0] := by subst hW10; exact (((Off.refl _ _).below Z9.out.2.1 (Nat.le_refl _)).bx (K8.out.2.1.bx (K6.out.2.1.bx K5.out.2.2.1 hne0) hne0) hne0).far (by show w.heap.size ≠ w3.heap.size; have := K5.out.2.2.2.2.2.1; omega) _
  have hb10 : Below w.heap.size w W10 := by subst hW10; exact (K8.out.2.2.2.trans (Z9.out.2.1.mono K8.out.2.2.2.size)).setCell (by show w.heap.size ≤ w3.heap.size; have := K5.out.2.2.2.2.2.1; omega) _
  have at10 : Mr.At ⟨3, C.id, who, C.s.tm, q.nx - 1, (C.termOf (q.nx - 1)).2, C.commit, C.round, false, 0, none, 0, 0, [], A9, n9, c9, L9⟩ W10 (w.heap.size + 1 ≤ ·) := by
   subst hW10
   have hlo := K5.out.2.2.2.2.2.1
   have hsz := K8.out.2.2.1
   have hz6 := K6.out.2.2.1
   have hz5 := K5.out.2.2.2.2.1
   have hdz : W8.drew.heap.size = W8.heap.size := rfl
   have hne : ¬ (w3.heap.size + 1 ≤ w3.heap.size) := by omega
   have hcp := own_cp Z9.out.2.2.1.ow
   refine Mr.At.mono (ok := (w3.heap.size + 1 ≤ ·)) ?_ fun b hb => (by omega : w.heap.size + 1 ≤ b)
   refine ⟨Rd.none_, ⟨Nat.le_refl _, by simp [maxLen]⟩, ?_, fun y hy => ?_, hcp⟩
   ·exact ((Rd.of_own Z9.out.2.2.1.ow).mono fun b hb => (by omega : w3.heap.size + 1 ≤ b)).setCell (p := ⟨w3.heap.size, 11, none⟩) hne _
   ·obtain ⟨d1, d2⟩ := Z9.out.2.2.1.dat_from y hy
    exact ⟨(d1.mono fun b hb => (by omega : w3.heap.size + 1 ≤ b)).setCell (p := ⟨w3.heap.size, 11, none⟩) hne _, d2⟩
  rw [← hW10]
  obtain ⟨g0, g1, g2, g3, g4, g5, g6, g7, g8, g9, g10, g11⟩ := z10.c12
  obtain ⟨r0, r1, r2, r3, r4, r5, r6, r7, r8, r9, r10, r11⟩ := x10.c12
  obtain ⟨f0, f1, f2, f3, f4, f5, f6, f7, f8, f9, f10, f11⟩ := x10.f12
  have KH10 := Lib.hid (And.intro x10 (And.intro hb10 at10))
  clear hW10 z10 x10 hb10 at10
  go_wp2_with fail
  obtain ⟨W11, hW11⟩ : ∃ W11, W11 = ((((((((((((W10.setCell ⟨w.heap.size, 0, none⟩ (.int .i64 3)).setCell ⟨w.heap.size, 1, none⟩ (.int .i64 C.id)).setCell ⟨w.heap.size, 2, none⟩ (.int .i64 who)).setCell ⟨w.heap.size, 3, none⟩ (.int .i64 C.s.tm)).setCell ⟨w.heap.size, 4, none⟩ (.int .i64 (q.nx - 1))).setCell ⟨w.heap.size, 5, none⟩ (.int .i64 (C.termOf (q.nx - 1)).2)).setCell ⟨w.heap.size, 6, none⟩ (.int .i64 C.commit)).setCell ⟨w.heap.size, 7, none⟩ (.int .i64 C.round)).setCell ⟨w.heap.size, 8, none⟩ (.bool false)).setCell ⟨w.heap.size, 9, none⟩ (.int .i64 0)).setCell ⟨w.heap.size, 10, none⟩ (.slice none 0 0)).setCell ⟨w.heap.size, 11, none⟩ (.slice A9 n9 c9)) := ⟨_, rfl⟩
  have x11 : Bx W11 w.heap.size #[.int .i64 3, .int .i64 C.id, .int .i64 who, .int .i64 C.s.tm, .int .i64 (q.nx - 1), .int .i64 (C.termOf (q.nx - 1)).2, .int .i64 C.commit, .int .i64 C.round, .bool false, .int .i64 0, .slice none 0 0, .slice A9 n9 c9] := by subst hW11; exact KH10.out.1.set12 _ _ _ _ _ _ _ _ _ _ _ _
  have hb11 : Below w.heap.size w W11 := by subst hW11; exact bset12 KH10.out.2.1 (Nat.le_refl _) _ _ _ _ _ _ _ _ _ _ _ _
  have at11 : Mr.At ⟨3, C.id, who, C.s.tm, q.nx - 1, (C.termOf (q.nx - 1)).2, C.commit, C.round, false, 0, none, 0, 0, [], A9, n9, c9, L9⟩ W11 (w.heap.size + 1 ≤ ·) := by
   subst hW11
   exact KH10.out.2.2.keep fun b hb _ => keep12 (by have h9 : w.heap.size + 1 ≤ b := hb; omega) _ _ _ _ _ _ _ _ _ _ _ _
  rw [← hW11]
  clear hW11
  obtain ⟨ty11, hg11⟩ := x11.hp
  refine bodyPost_ret (results_cell_row rfl _ _ w.heap.size _ _ (0, 0) _ rfl hg11 Tryz.underlying78 rfl (by kernel_rfl)) rfl ?_
  refine ⟨⟨3, C.id, who, C.s.tm, q.nx - 1, (C.termOf (q.nx - 1)).2, C.commit, C.round, false, 0, none, 0, 0, [], A9, n9, c9, L9⟩, rfl, ?_, at11.mono fun b hb => (by omega : w.heap.size ≤ b), hb11⟩
  rw [KH.out.2.2.2.1, if_pos hlt]
  unfold Mr.ms
  dsimp only
  rw [Z9.out.2.2.2]
  rfl
 ·have hlt' : decide (m.s.b < q.nx) = false := decide_eq_false hlt
  have zc0 : W5.cell? ⟨w3.heap.size, 0, none⟩ = some (.int .i64 3) := K5.out.1.c 0
  have zc4 : W5.cell? ⟨w3.heap.size, 4, none⟩ = some (.int .i64 0) := K5.out.1.c 4
  have zc5 : W5.cell? ⟨w3.heap.size, 5, none⟩ = some (.int .i64 0) := K5.out.1.c 5
  have zc9 : W5.cell? ⟨w3.heap.size, 9, none⟩ = some (.int .i64 0) := K5.out.1.c 9
  have zf0 := K5.out.1.f 0
  have zf4 := K5.out.1.f 4
  have zf5 := K5.out.1.f 5
  have zf9 := K5.out.1.f 9
  go_region
  go_upto_region 9 with (fail)
  clear c2 c3 c4 c9 y0 y2
  refine wp_region_S 21 (fun W => Off w3.heap.size W5 W) (.take 0 (.take 1 (.take 2 (.take 3 (.take 4 (.take 5 (.take 6 (.take 7 (.take 8 (.take 9 (.take 10 (.take 11 (.take 12 (.take 13 (.take 14 (.one 15 (.take 16 (.one 17 (.take 18 (.one 19 (.take 20 (.one 21 (.nil))))))))))))))))))))))) (by kernel_rfl) (Off.refl _ _).drew.drew (fun _ _ _ _ h => h) (fun hS => ?_)
  repeat (first
   | (refine wpS_take (v := ?_) rfl rfl (by rfl) ?_ ?_; rotate_left; (intro W hW; have hf := FF.out W hW; go_split_ands; go_simp; try with_reducible rfl); try simp only [Act.put, lyA, lyB, lyC])
   | (refine wpS_skip rfl rfl (by rfl) ?_; try simp only [Act.put, lyA, lyB, lyC]))
  refine wpS_one rfl (by rfl) (fun K hK => ?_)
  go_simp
  refine hK (fun W => Off w3.heap.size W5 W) _ _ (fun _ h => h) (((Off.refl _ _).drew.drew).set 0 _) ?_
  clear hK K
  try simp only [Act.put, lyA, lyB, lyC]
  repeat (first
   | (refine wpS_take (v := ?_) rfl rfl (by rfl) ?_ ?_; rotate_left; (intro W hW; have hf := FF.out W hW; go_split_ands; go_simp; try with_reducible rfl); try simp only [Act.put, lyA, lyB, lyC])
   | (refine wpS_skip rfl rfl (by rfl) ?_; try simp only [Act.put, lyA, lyB, lyC]))
  refine wpS_one rfl (by rfl) (fun K hK => ?_)
  go_simp
  refine hK (fun W => Off w3.heap.size W5 W) _ _ (fun _ h => h) (((((Off.refl _ _).drew.drew).set 0 _)).set 4 _) ?_
  clear hK K
  try simp only [Act.put, lyA, lyB, lyC]
  repeat (first
   | (refine wpS_take (v := ?_) rfl rfl (by rfl) ?_ ?_; rotate_left; (intro W hW; have hf := FF.out W hW; go_split_ands; go_simp; try with_reducible rfl); try simp only [Act.put, lyA, lyB, lyC])
   | (refine wpS_skip rfl rfl (by rfl) ?_; try simp only [Act.put, lyA, lyB, lyC]))
  refine wpS_one rfl (by rfl) (fun K hK => ?_)
  go_simp
  refine hK (fun W => Off w3.heap.size W5 W) _ _ (fun _ h => h) (((((((Off.refl _ _).drew.drew).set 0 _)).set 4 _)).set 5 _) ?_
  clear hK K
  try simp only [Act.put, lyA, lyB, lyC]
  repeat (first
   | (refine wpS_take (v := ?_) rfl rfl (by rfl) ?_ ?_; rotate_left; (intro W hW; have hf := FF.out W hW; go_split_ands; go_simp; try with_reducible rfl); try simp only [Act.put, lyA, lyB, lyC])
   | (refine wpS_skip rfl rfl (by rfl) ?_; try simp only [Act.put, lyA, lyB, lyC]))
  refine wpS_last rfl (by rfl) (fun K hK => ?_)
  go_simp
  refine hK _ _ ?_
  clear hK K
  try simp only [Act.put, lyA, lyB, lyC]
  refine wpS_nil ?_
  obtain ⟨W6, hW6⟩ : ∃ W6, W6 = ((((W5.setCell ⟨w3.heap.size, 0, none⟩ (.int .i64 5)).setCell ⟨w3.heap.size, 4, none⟩ (.int .i64 m.s.b)).setCell ⟨w3.heap.size, 5, none⟩ (.int .i64 m.s.t)).setCell ⟨w3.heap.size, 9, none⟩ (.int .i64 q.of)).drew.drew := ⟨_, rfl⟩
  have z6 : Bx W6 w3.heap.size #[.int .i64 5, .int .i64 C.id, .int .i64 who, .int .i64 C.s.tm, .int .i64 m.s.b, .int .i64 m.s.t, .int .i64 0, .int .i64 C.round, .bool false, .int .i64 q.of, .slice none 0 0, .slice none 0 0] := by subst hW6; exact ((((K5.out.1.set 0 _).set 4 _).set 5 _).set 9 _).drew.drew
  have o6 : Off w3.heap.size W5 W6 := by subst hW6; exact (((((Off.refl _ _).set 0 _).set 4 _).set 5 _).set 9 _).drew.drew
  have hz6 : W6.heap.size = W5.heap.size := by subst hW6; simp [World.setCell, World.drew]
  have hb6 : Below w.heap.size w W6 := by
   subst hW6
   have hle : w.heap.size ≤ w3.heap.size := by have := K5.out.2.2.2.2.2.1; omega
   exact ((((K5.out.2.2.2.1.setCell (p := ⟨w3.heap.size, 0, none⟩) hle _).setCell (p := ⟨w3.heap.size, 4, none⟩) hle _).setCell (p := ⟨w3.heap.size, 5, none⟩) hle _).setCell (p := ⟨w3.heap.size, 9, none⟩) hle _).drew.drew
  rw [← hW6]
  have K6 := Lib.hid (And.intro z6 (And.intro o6 (And.intro hz6 hb6)))
  have FF6 : Hid (∀ W, Off w3.heap.size W6 W → W.cell? ⟨w1.heap.size, 2, none⟩ = some (.int .i64 q.of)) := Lib.hid fun W hW => by
   have hoff : Off w3.heap.size W5 W := fun b h1 h2 => (hW b h1 (by rw [K6.out.2.2.1]; exact h2)).trans (K6.out.2.1 b h1 h2)
   exact (FF.out W hoff).2.2.2.2.2
  clear hW6 z6 o6 hz6 hb6 zc0 zc4 zc5 zc9 zf0 zf4 zf5 zf9
  go_upto_region 10 with (fail)
  refine wp_region_S 13 (fun W => Off w3.heap.size W6 W) (.take 0 (.take 2 (.take 3 (.one 1 (.one 4 (.take 5 (.take 6 (.take 7 (.take 8 (.take 9 (.one 10 (.take 11 (.one 12 (.nil)))))))))))))) (by kernel_rfl) (Off.refl _ _).drew (fun _ _ _ _ h => h) (fun hS => ?_)
  repeat (first
   | (refine wpS_take (v := ?_) rfl rfl (by rfl) ?_ ?_; rotate_left; (intro W hW; have hf := FF6.out W hW; go_split_ands; go_simp; try with_reducible rfl); try simp only [Act.put, lyA, lyB, lyC])
   | (refine wpS_skip rfl rfl (by rfl) ?_; try simp only [Act.put, lyA, lyB, lyC]))
  refine wpS_one rfl (by rfl) (fun K hK => ?_)
  go_simp
  go_at_call 131
  refine (Hhand.out _ K6.out.2.2.2.drew).mono ?_
  intro e w7 h7
  obtain ⟨A7, n7, c7, rfl, r7, hb7⟩ := h7
  have hb7' : Below W6.heap.size W6 w7 := (Below.refl _ _).drew.trans hb7
  have R7 := Lib.hid (And.intro r7 hb7')
  clear r7 hb7 hb7'
  refine hK (fun W => Off w3.heap.size W6 W) _ _ (fun _ h => h) ((Off.refl _ _).below R7.out.2 (Nat.le_refl _)) ?_
  clear hK K
  try simp only [Act.put, lyA, lyB, lyC]
  have Hcut := Lib.hid (cutn_any A7 n7 c7 C.handed q.of 1024 w7 (Rd.of_own R7.out.1) (own_cp R7.out.1).1 (by have h1 := (Rd.of_own R7.out.1).blen; have h2 := KH.out.2.2.2.2.2.2.2.2; omega))
  refine wpS_one rfl (by rfl) (fun K hK => ?_)
  go_simp
  go_at_call 169
  refine (Hcut.out).mono ?_
  intro e w9 h9
  obtain ⟨A9, n9, c9, rfl, r9, cp9, hb9⟩ := h9
  have hb9' : Below W6.heap.size W6 w9 := R7.out.2.trans (hb9.mono R7.out.2.size)
  have z9 := K6.out.1.below hb9'
  have q10 : w9.cell? ⟨w3.heap.size, 10, none⟩ = some (.slice none 0 0) := z9.c 10
  have p10 := z9.f 10
  have q8 : w9.cell? ⟨w3.heap.size, 8, none⟩ = some (.bool false) := z9.c 8
  have p8 := z9.f 8
  have Z9 := Lib.hid (And.intro z9 (And.intro hb9' (And.intro r9 cp9)))
  clear z9 hb9 hb9' r9 cp9
  refine hK (fun W => Off w3.heap.size W6 W) _ _ (fun _ h => h) ((Off.refl _ _).below Z9.out.2.1 (Nat.le_refl _)) ?_
  clear hK K
  try simp only [Act.put, lyA, lyB, lyC]
  repeat (first
   | (refine wpS_take (v := ?_) rfl rfl (by rfl) ?_ ?_; rotate_left; (intro W hW; have hf := FF6.out W hW; go_split_ands; go_simp; try with_reducible rfl); try simp only [Act.put, lyA, lyB, lyC])
   | (refine wpS_skip rfl rfl (by rfl) ?_; try simp only [Act.put, lyA, lyB, lyC]))
  refine wpS_one rfl (by rfl) (fun K hK => ?_)
  go_simp
  refine hK (fun W => Off w3.heap.size W6 W) _ _ (fun _ h => h) (((Off.refl _ _).below Z9.out.2.1 (Nat.le_refl _)).set 10 _) ?_
  clear hK K
  try simp only [Act.put, lyA, lyB, lyC]
  repeat (first
   | (refine wpS_take (v := ?_) rfl rfl (by rfl) ?_ ?_; rotate_left; (intro W hW; have hf := FF6.out W hW; go_split_ands; go_simp; try with_reducible rfl); try simp only [Act.put, lyA, lyB, lyC])
   | (refine wpS_skip rfl rfl (by rfl) ?_; try simp only [Act.put, lyA, lyB, lyC]))
  refine wpS_one rfl (by rfl) (fun K hK => ?_)
  go_simp
  refine hK (fun W => Off w3.heap.size W6 W) _ _ (fun _ h => h) ((((Off.refl _ _).below Z9.out.2.1 (Nat.le_refl _)).set 10 _).set 8 _) ?_
  clear hK K
  try simp only [Act.put, lyA, lyB, lyC]
  refine wpS_nil ?_
  have hne0 : w.heap.size ≠ w3.heap.size := by have := K5.out.2.2.2.2.2.1; omega
  obtain ⟨W10, hW10⟩ : ∃ W10, W10 = (w9.setCell ⟨w3.heap.size, 10, none⟩ (.slice A9 n9 c9)).setCell ⟨w3.heap.size, 8, none⟩ (.bool (cutFN C.handed q.of 1024).2.1) := ⟨_, rfl⟩
  have z10 : Bx W10 w3.heap.size #[.int .i64 5, .int .i64 C.id, .int .i64 who, .int .i64 C.s.tm, .int .i64 m.s.b, .int .i64 m.s.t, .int .i64 0, .int .i64 C.round, .bool (cutFN C.handed q.of 1024).2.1, .int .i64 q.of, .slice A9 n9 c9, .slice none 0 0] := by subst hW10; exact ((Z9.out.1).set 10 _).set 8 _
  have x10 : Bx W10 w.heap.size #[.int .i64 0, .int .i64 0, .int .i64 0, .int .i64 0, .int .i64 0, .int .i64 0, .int .i64 0, .int .i64 0, .bool false, .int .i64 0, .slice none 0 0, .slice none 0 0] := by subst hW10; exact ((((Off.refl _ _).below Z9.out.2.1 (Nat.le_refl _)).bx (K6.out.2.1.bx K5.out.2.2.1 hne0) hne0).far (by show w.heap.size ≠ w3.heap.size; have := K5.out.2.2.2.2.2.1; omega) _).far (by show w.heap.size ≠ w3.heap.size; have := K5.out.2.2.2.2.2.1; omega) _
  have hb10 : Below w.heap.size w W10 := by subst hW10; exact ((K6.out.2.2.2.trans (Z9.out.2.1.mono K6.out.2.2.2.size)).setCell (by show w.heap.size ≤ w3.heap.size; have := K5.out.2.2.2.2.2.1; omega) _).setCell (by show w.heap.size ≤ w3.heap.size; have := K5.out.2.2.2.2.2.1; omega) _
  have at10 : Mr.At ⟨5, C.id, who, C.s.tm, m.s.b, m.s.t, 0, C.round, (cutFN C.handed q.of 1024).2.1, q.of, A9, n9, c9, (cutFN C.handed q.of 1024).1, none, 0, 0, []⟩ W10 (w.heap.size + 1 ≤ ·) := by
   subst hW10
   have hlo := K5.out.2.2.2.2.2.1
   have hz6 := K6.out.2.2.1
   have hz5 := K5.out.2.2.2.2.1
   have hz7 := R7.out.2.size
   have hne : ¬ (w3.heap.size + 1 ≤ w3.heap.size) := by omega
   refine Mr.At.mono (ok := (w3.heap.size + 1 ≤ ·)) ?_ fun b hb => (by omega : w.heap.size + 1 ≤ b)
   refine ⟨?_, Z9.out.2.2.2, Rd.none_, (fun y hy => by cases hy), ⟨Nat.le_refl _, by simp [maxLen]⟩⟩
   exact ((Z9.out.2.2.1.mono fun b hb => (by omega : w3.heap.size + 1 ≤ b)).setCell (p := ⟨w3.heap.size, 10, none⟩) hne _).setCell (p := ⟨w3.heap.size, 8, none⟩) hne _
  rw [← hW10]
  obtain ⟨g0, g1, g2, g3, g4, g5, g6, g7, g8, g9, g10, g11⟩ := z10.c12
  obtain ⟨r0, r1, r2, r3, r4, r5, r6, r7, r8, r9, r10, r11⟩ := x10.c12
  obtain ⟨f0, f1, f2, f3, f4, f5, f6, f7, f8, f9, f10, f11⟩ := x10.f12
  have KH10 := Lib.hid (And.intro x10 (And.intro hb10 at10))
  clear hW10 z10 x10 hb10 at10
  go_wp2_with fail
  obtain ⟨W11, hW11⟩ : ∃ W11, W11 = ((((((((((((W10.setCell ⟨w.heap.size, 0, none⟩ (.int .i64 5)).setCell ⟨w.heap.size, 1, none⟩ (.int .i64 C.id)).setCell ⟨w.heap.size, 2, none⟩ (.int .i64 who)).setCell ⟨w.heap.size, 3, none⟩ (.int .i64 C.s.tm)).setCell ⟨w.heap.size, 4, none⟩ (.int .i64 m.s.b)).setCell ⟨w.heap.size, 5, none⟩ (.int .i64 m.s.t)).setCell ⟨w.heap.size, 6, none⟩ (.int .i64 0)).setCell ⟨w.heap.size, 7, none⟩ (.int .i64 C.round)).setCell ⟨w.heap.size, 8, none⟩ (.bool (cutFN C.handed q.of 1024).2.1)).setCell ⟨w.heap.size, 9, none⟩ (.int .i64 q.of)).setCell ⟨w.heap.size, 10, none⟩ (.slice A9 n9 c9)).setCell ⟨w.heap.size, 11, none⟩ (.slice none 0 0)) := ⟨_, rfl⟩
  have x11 : Bx W11 w.heap.size #[.int .i64 5, .int .i64 C.id, .int .i64 who, .int .i64 C.s.tm, .int .i64 m.s.b, .int .i64 m.s.t, .int .i64 0, .int .i64 C.round, .bool (cutFN C.handed q.of 1024).2.1, .int .i64 q.of, .slice A9 n9 c9, .slice none 0 0] := by subst hW11; exact KH10.out.1.set12 _ _ _ _ _ _ _ _ _ _ _ _
  have hb11 : Below w.heap.size w W11 := by subst hW11; exact bset12 KH10.out.2.1 (Nat.le_refl _) _ _ _ _ _ _ _ _ _ _ _ _
  have at11 : Mr.At ⟨5, C.id, who, C.s.tm, m.s.b, m.s.t, 0, C.round, (cutFN C.handed q.of 1024).2.1, q.of, A9, n9, c9, (cutFN C.handed q.of 1024).1, none, 0, 0, []⟩ W11 (w.heap.size + 1 ≤ ·) := by
   subst hW11
   exact KH10.out.2.2.keep fun b hb _ => keep12 (by have h9 : w.heap.size + 1 ≤ b := hb; omega) _ _ _ _ _ _ _ _ _ _ _ _
  rw [← hW11]
  clear hW11
  obtain ⟨ty11, hg11⟩ := x11.hp
  refine bodyPost_ret (results_cell_row rfl _ _ w.heap.size _ _ (0, 0) _ rfl hg11 Tryz.underlying78 rfl (by kernel_rfl)) rfl ?_
  refine ⟨⟨5, C.id, who, C.s.tm, m.s.b, m.s.t, 0, C.round, (cutFN C.handed q.of 1024).2.1, q.of, A9, n9, c9, (cutFN C.handed q.of 1024).1, none, 0, 0, []⟩, rfl, ?_, at11.mono fun b hb => (by omega : w.heap.size ≤ b), hb11⟩
  rw [KH.out.2.2.2.1, if_neg (show ¬ m.s.b < q.nx by omega)]
  have hpc : C.pieceOf q.of = ((cutFN C.handed q.of 1024).1, (cutFN C.handed q.of 1024).2.1) := by
   have h0 := KH.out.2.2.2.2.1.of
   unfold Cr.pieceOf cutFN
   rw [if_neg (by decide : ¬ ((1024 : Int) < 1 ∨ 1048576 < (1024 : Int)))]
   split
   ·rfl
   ·refine Prod.ext rfl ?_
    show decide _ = decide _
    congr 1
    refine propext ?_
    have e1 : (1024 : Int).toNat = 1024 := rfl
    omega
  unfold Mr.ms
  rw [hpc]
  rfl
theorem msg_elem : Elem Tryz.prog 78 (.agg #[.int .i64 0, .int .i64 0, .int .i64 0, .int .i64 0, .int .i64 0, .int .i64 0, .int .i64 0, .int .i64 0, .bool false, .int .i64 0, .slice none 0 0, .slice none 0 0]) 12 128 := by unfold Elem; kernel_rfl
theorem Rd.blit1 {w : World} {cs : Array Value} {t : TypeId} {fr : Nat × Nat} {k : Nat} (hk : cs.size = k) : Rd (w.alloc (.cells cs t fr)) (w.heap.size ≤ ·) k (some ⟨w.heap.size, 0, none⟩) 1 cs.toList := by
 refine ⟨by simpa using hk, fun _ => ⟨_, rfl, Nat.le_refl _, fun j u hu => ?_⟩⟩
 exact World.news_of_block (heap_alloc_new w _) j u hu
structure Rm (W : World) (B : Nat) (A : Option Addr) (n c : Nat) (X : List Mr) : Prop where
 ow : W.ownsRow B 78 12 (.slice A n c) n (flat mcell X)
 dt : ∀ x ∈ X, x.At W (fun b => B ≤ b ∧ A.map (·.block) ≠ some b)
section
variable {W W' W2 : World} {B B' n c : Nat} {A : Option Addr} {X : List Mr}
theorem Rm.nil (W : World) (B : Nat) : Rm W B none 0 0 [] := ⟨World.ownsRow_nil _ _ _ _, by intro x hx; cases hx⟩
theorem Rm.below (h : Rm W B A n c X) (hb : Below W.heap.size W W') : Rm W' B A n c X := ⟨own_below h.ow hb, fun x hx => (h.dt x hx).below hb⟩
theorem Rm.alloc (h : Rm W B A n c X) (o : Obj) : Rm (W.alloc o) B A n c X := h.below ((Below.refl _ _).alloc (Nat.le_refl _) o)
theorem Rm.kept {V : Nat → Prop} (h : Rm W B A n c X) (hk : Kept V W W') (hv : ∀ b, V b → b < B) : Rm W' B A n c X :=
 ⟨hk.own h.ow fun b hb hv' => by have := (own_lt h.ow b hb).1; have := hv b hv'; omega, fun x hx => (h.dt x hx).keep fun b hb hl => hk.block b hl fun hv' => by have := hb.1; have := hv b hv'; omega⟩
theorem Rm.mono (h : Rm W B A n c X) (hB : B' ≤ B) : Rm W B' A n c X := ⟨Go.Proofs.YtmhaahcbmdhinaaGreatDoor.own_mono h.ow hB, fun x hx => (h.dt x hx).mono fun b hb => ⟨Nat.le_trans hB hb.1, hb.2⟩⟩
theorem Rm.len (h : Rm W B A n c X) : X.length = n := (Rd.of_own h.ow).flen mcell_len (by omega)
theorem Rm.at_ (h : Rm W B A n c X) {x : Mr} (hx : x ∈ X) : x.At W (B ≤ ·) := (h.dt x hx).mono fun b hb => hb.1
theorem flat_mcell_snoc (X : List Mr) (x : Mr) : flat mcell (X ++ [x]) = flat mcell X ++ mcell x := by simp [flat]
theorem Rm.push {x : Mr} {k c2 : Nat} {A2 : Option Addr} (h : Rm W B A n c X) (hx : x.At W (fun b => B ≤ b ∧ A.map (·.block) ≠ some b)) (ho : W2.ownsRow B 78 12 (.slice A2 k c2) k (flat mcell X ++ mcell x)) (hg : W.grownBy W2 (A.map (·.block)))
  (ha : A2.map (·.block) = A.map (·.block) ∨ A2.map (·.block) = some W.heap.size) : Rm W2 B A2 k c2 (X ++ [x]) := by
 refine ⟨by rw [flat_mcell_snoc]; exact ho, fun y hy => ?_⟩
 have h1 : y.At W (fun b => B ≤ b ∧ A.map (·.block) ≠ some b) := by
  rcases List.mem_append.1 hy with h2 | h2
  ·exact h.dt y h2
  ·rw [List.mem_singleton.1 h2]; exact hx
 refine (h1.lt.keep fun b hb hl => hg.block b hl fun e => hb.1.2 e.symm).mono fun b hb => ⟨hb.1.1, ?_⟩
 rcases ha with e | e
 ·rw [e]; exact hb.1.2
 ·rw [e]; intro e2; injection e2 with e2; have := hb.2; omega
end
section
variable {fb p : Nat} {w w' : World} {V U : Nat → Prop} {C : Cr} {m : Mb}
theorem CX.remap (h : CX fb w p V U C m) (hk : Kept (· = m.q) w w') {f : Int → Option Pe} (hp : Pm w' m.q f) : CX fb w' p V U { C with peers := f } m := by
 refine ⟨h.bx.keep (hk.block p h.bx.lt (fun e => h.qp e.symm)), hp, h.vp, h.vq, h.qp, h.vv, h.vu, h.vf, fun b hb => Nat.lt_of_lt_of_le (h.ul b hb) hk.size, ?_, h.at_.keep fun b hb hl => hk.block b hl fun e => hb (e ▸ h.vu _ h.vq), h.st, h.hv.keep fun b hb hl => hk.block b hl fun e => hb (e ▸ h.vu _ h.vq), h.hk⟩
 refine ⟨h.vt.1, ?_⟩
 rcases h.vt.2 with h1 | ⟨g, cap, cur, h1, h2, h3, h4⟩
 ·exact .inl h1
 ·refine .inr ⟨g, cap, cur, h1, h2, ?_, h4⟩
  rw [hk.block g (Array.getElem?_eq_some_iff.1 h3).1 (fun e => (h.vv g (by injection h1 with h1; rw [h1]; rfl)).2.2 e), h3]
theorem knowL_eta : ∀ (l : List Int) (C : Cr), C.knowL l = { C with peers := (C.knowL l).peers }
 | [], _ => rfl
 | w :: l, C => by
  show (C.know w).knowL l = { C with peers := ((C.know w).knowL l).peers }
  rw [knowL_eta l (C.know w)]
  rfl
theorem knowL_snoc (x : Int) : ∀ (l : List Int) (C : Cr), C.knowL (l ++ [x]) = (C.knowL l).know x
 | [], _ => rfl
 | w :: l, C => knowL_snoc x l (C.know w)
theorem sendL_fst : ∀ (l : List Int) (C : Cr), (C.sendL l).1 = C.knowL l
 | [], _ => rfl
 | w :: l, C => sendL_fst l (C.know w)
theorem sendL_snoc (x : Int) : ∀ (l : List Int) (C : Cr), (C.sendL (l ++ [x])).2 = (C.sendL l).2 ++ [((C.knowL l).know x).send x]
 | [], _ => rfl
 | w :: l, C => by
  show (C.know w).send w :: ((C.know w).sendL (l ++ [x])).2 = _
  rw [sendL_snoc x l (C.know w)]
  rfl
end
def OutPost (fb : Nat) (W : World) (p : Nat) (V U : Nat → Prop) (r : Cr × List Ms) (e : Ending) (w' : World) : Prop :=
 ∃ A n c X V' U' m', e = .returned (.slice A n c) ∧ Rm w' W.heap.size A n c X ∧ X.map Mr.ms = r.2 ∧ (∀ x ∈ X, x.At w' (fun b => ¬ U' b)) ∧ CTo fb W p V U r.1 w' V' U' m'
end Go.Proofs.YtmhaahcbmdhinaaGreatDoor
