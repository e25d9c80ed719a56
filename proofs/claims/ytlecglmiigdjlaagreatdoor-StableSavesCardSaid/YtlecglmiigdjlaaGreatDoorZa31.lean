/- Walk: what is kept, as bytes, by the document: tollbarref15.Encode. (Printed by mkkencr.py.) -/
import Derived.Test.YtlecglmiigdjlaaGreatDoorZa14
import Derived.Test.YtlecglmiigdjlaaGreatDoorZa10
namespace Go.Proofs.YtlecglmiigdjlaaGreatDoor
open Go.RowKit
set_option maxRecDepth 100000
set_option linter.unusedVariables false
set_option linter.unusedSimpArgs false
/-- Bytes of the call's own. -/
def RP (W0 : World) (L : List UInt8) (e : Ending) (w' : World) : Prop := ∃ A n c, e = .returned (.slice A n c) ∧ w'.ownsRow W0.heap.size 5 1 (.slice A n c) n (bs L) ∧ Below W0.heap.size W0 w'
section
variable {W0 W W' : World} {L : List UInt8} {A : Option Addr} {n c : Nat}
theorem RP.of {L' : List UInt8} {e : Ending} (hb : Below W0.heap.size W0 W) (h : LayR W L' e W') : RP W0 L' e W' := by
  obtain ⟨A, n, c, h1, h2, h3⟩ := h
  exact ⟨A, n, c, h1, own_dn h2 hb.size, hb.trans (h3.mono hb.size)⟩
theorem uintR_i (u : Nat) (hu : u < 18446744073709551616) (hb : Below W0.heap.size W0 W) (hr : Rd W T 1 A n (bs L)) (hn : L.length ≤ 8000000000000) :
    Calls Tryz.prog 39 #[.slice A n c, .int .u64 u] W (RP W0 (L ++ uintL u)) :=
  (uintR_any A n c L u hu W hr (by have := hr.blen; omega)).mono fun e w' h => RP.of hb h
theorem bytesR_i (D : Option Addr) (nd cd : Nat) (d : List UInt8) (hb : Below W0.heap.size W0 W) (hr : Rd W T 1 A n (bs L)) (hn : L.length ≤ 8000000000000) (hd : Rd W T 1 D nd (bs d)) (hnd : d.length ≤ 1000000000000) :
    Calls Tryz.prog 40 #[.slice A n c, .slice D nd cd] W (RP W0 (L ++ bytesL d)) :=
  (bytesR_any A n c L D nd cd d W hr (by have := hr.blen; omega) hd (by have := hd.blen; omega)).mono fun e w' h => RP.of hb h
end
set_option maxHeartbeats 6400000 in
theorem kencR_any (n : Int) (s : Sv) (w : World) {ok : Nat → Prop} (h : s.At w ok) (hf : s.Fit) :
    Calls Tryz.prog 17 #[.int .i64 n, s.val] w (LayR w (stL n s.st)) := by
  obtain ⟨W0, hW0⟩ : ∃ W0, W0 = w.alloc (.cells s.cells 50) := ⟨_, rfl⟩
  have b0 : Bx W0 w.heap.size s.cells := by subst hW0; exact Bx.new _ _ _ rfl
  have hbe : Below w.heap.size w W0 := by subst hW0; exact (Below.refl _ _).alloc (Nat.le_refl _) _
  have hz0 : W0.heap.size = w.heap.size + 1 := by subst hW0; simp
  have a0 := h.lt.below hbe
  have hl : s.L.length = s.n := h.l.flen ecell_len (by omega)
  have hsn : s.sn.length = s.ns := h.sn.blen
  have hcfl : s.cf.length = s.nc := ii_len h.cf
  obtain ⟨hz1, hz2, hz3⟩ := hf.z
  have hcl : (confL s.cf).length ≤ 23000000 := by
    have h1 := confF_le s.cf
    have h3 := uintL_le s.cf.length (by omega)
    unfold confL
    rw [List.length_append]
    omega
  have hcl' := bytesL_len (confL s.cf) (by omega)
  have hpl : (confF [n, s.tm, s.vt, s.b, s.t]).length ≤ 110 := by have := confF_le [n, s.tm, s.vt, s.b, s.t]; simpa using this
  have hsl : (bytesL s.sn).length ≤ s.ns + 22 := by have := bytesL_len s.sn (by omega); omega
  have hul := uintL_le s.n (by omega)
  have hxd : ∀ x ∈ s.L, x.d.length ≤ 1000000 := fun x hx => by
    have h1 := (h.d x hx).1.blen
    have h2 := (hf.w x hx).2
    omega
  have hen : ∀ j, (entF ((s.L.map en).take j)).length ≤ 1000110000000 := fun j => by
    have h1 := entF_le 1000000 ((s.L.map en).take j) (fun e he => by
      obtain ⟨x, hx, rfl⟩ := List.mem_map.1 (List.mem_of_mem_take he)
      exact hxd x hx) (by omega)
    have h2 : ((s.L.map en).take j).length ≤ 1000000 := by rw [List.length_take, List.length_map]; omega
    have h3 := Nat.mul_le_mul_left (1000000 + 110) h2
    omega
  have pre := stL_pre n s.st
  have e1 : s.st.l = s.L.map en := rfl
  have e2 : s.st.cf = s.cf := rfl
  have e3 : s.st.sn = s.sn := rfl
  have e4 : s.st.tm = s.tm := rfl
  have e5 : s.st.vt = s.vt := rfl
  have e6 : s.st.b = s.b := rfl
  have e7 : s.st.t = s.t := rfl
  rw [e1, e2, e3, e4, e5, e6, e7, List.length_map, hl] at pre
  rw [pre]
  obtain ⟨M1, hM1⟩ : ∃ M1, M1 = confF [n, s.tm, s.vt, s.b, s.t] ++ bytesL (confL s.cf) ++ bytesL s.sn ++ uintL s.n := ⟨_, rfl⟩
  rw [← hM1]
  have hM1l : M1.length ≤ 300000000 := by
    rw [hM1]
    simp only [List.length_append]
    omega
  have hp3 : [] ++ uintL (uN n) ++ uintL (uN s.tm) ++ uintL (uN s.vt) ++ uintL (uN s.b) ++ uintL (uN s.t) = confF [n, s.tm, s.vt, s.b, s.t] := by unfold confF; simp
  have F : ∀ W, Below W0.heap.size W0 W → W.cell? ⟨w.heap.size, 0, none⟩ = some (.int .i64 s.tm) ∧ W.cell? ⟨w.heap.size, 1, none⟩ = some (.int .i64 s.vt) ∧ W.cell? ⟨w.heap.size, 2, none⟩ = some (.int .i64 s.b) ∧ W.cell? ⟨w.heap.size, 3, none⟩ = some (.int .i64 s.t) ∧ W.cell? ⟨w.heap.size, 4, none⟩ = some (.slice s.A s.n s.c) ∧ W.cell? ⟨w.heap.size, 5, none⟩ = some (.slice s.C s.nc s.cc) ∧ W.cell? ⟨w.heap.size, 6, none⟩ = some (.slice s.S s.ns s.cs) := fun W hb => Sv.c7 (b0.below hb)
  have wn : IntKind.u64.wrap (s.n : Int) = (s.n : Int) := by rw [IntKind.wrap_u64]; omega
  have u0 := uN_eq n
  have u1 := uN_eq s.tm
  have u2 := uN_eq s.vt
  have u3 := uN_eq s.b
  have u4 := uN_eq s.t
  have l0 := uintL_le (uN n) (uN_lt _)
  have l1 := uintL_le (uN s.tm) (uN_lt _)
  have l2 := uintL_le (uN s.vt) (uN_lt _)
  have l3 := uintL_le (uN s.b) (uN_lt _)
  have FF := Lib.hid F
  have HW := Lib.hid hW0
  have B := Lib.hid (And.intro hbe hz0)
  have A0 := Lib.hid a0
  have Hen := Lib.hid hen
  have Hl := Lib.hid hl
  have Hxd := Lib.hid hxd
  have Hp3 := Lib.hid hp3
  have Ls := Lib.hid (And.intro l0 (And.intro l1 (And.intro l2 l3)))
  have Lens := Lib.hid (And.intro hcl (And.intro hcl' (And.intro hpl (And.intro hz3 (And.intro hsl (And.intro hul (And.intro hM1l (And.intro hM1 (And.intro hsn hz2)))))))))
  clear F hW0 hbe hz0 a0 hen hl hcl hcl' hpl hsl hul pre e1 e2 e3 e4 e5 e6 e7 h b0 hM1l hM1 hsn hxd hp3 l0 l1 l2 l3 hcfl
  unfold Sv.val stA
  go_enter Tryz.func17, Tryz.ntmps17
  go_upto_region 1 with (fail)
  have HW' := HW.out
  unfold Sv.cells at HW'
  rw [← HW']
  clear HW'
  refine wp_region_S 11 (fun W => Below W0.heap.size W0 W) (.take 0 (.take 1 (.take 3 (.take 4 (.take 5 (.take 7 (.take 8 (.take 9 (.one 2 (.one 6 (.one 10 (.one 11 (.nil))))))))))))) (by kernel_rfl) (Below.refl _ _).drew (fun _ _ _ _ h => h) (fun hS => ?_)
  repeat (first
    | (refine wpS_take (v := ?_) rfl rfl (by rfl) ?_ ?_; rotate_left; (intro W hW; have hf := FF.out W hW; go_split_ands; go_simp; try with_reducible rfl); try simp only [Act.put, List.setIfInBounds_toArray, List.set_cons_zero, List.set_cons_succ])
    | (refine wpS_skip rfl rfl (by rfl) ?_; try simp only [Act.put, List.setIfInBounds_toArray, List.set_cons_zero, List.set_cons_succ]))
  refine wpS_one rfl (by rfl) (fun K hK => ?_)
  go_simp
  go_at_call 39
  refine (uintR_i (W0 := W0) (L := []) (uN n) (uN_lt _) (Below.refl _ _).drew Rd.none_ (by simp)).mono ?_
  rintro e w1 ⟨A1, n1, c1, rfl, o1, hb1⟩
  have r1 := (Rd.of_own o1).any
  have K1 := Lib.hid (And.intro r1 (And.intro o1 hb1))
  have hS1 := hb1
  clear r1 o1 hb1
  refine hK (fun W => Below W0.heap.size W0 W) _ _ (fun _ h => h) hS1 ?_
  clear hK K
  try simp only [Act.put, List.setIfInBounds_toArray, List.set_cons_zero, List.set_cons_succ]
  refine wpS_one rfl (by rfl) (fun K hK => ?_)
  go_simp
  go_at_call 39
  refine (uintR_i (uN s.tm) (uN_lt _) K1.out.2.2 K1.out.1 (by have := Ls.out; simp only [List.length_append, List.length_nil]; omega)).mono ?_
  rintro e w2 ⟨A2, n2, c2, rfl, o2, hb2⟩
  have r2 := (Rd.of_own o2).any
  have K2 := Lib.hid (And.intro r2 (And.intro o2 hb2))
  have hS2 := hb2
  clear r2 o2 hb2
  refine hK (fun W => Below W0.heap.size W0 W) _ _ (fun _ h => h) hS2 ?_
  clear hK K
  try simp only [Act.put, List.setIfInBounds_toArray, List.set_cons_zero, List.set_cons_succ]
  refine wpS_one rfl (by rfl) (fun K hK => ?_)
  go_simp
  go_at_call 39
  refine (uintR_i (uN s.vt) (uN_lt _) K2.out.2.2 K2.out.1 (by have := Ls.out; simp only [List.length_append, List.length_nil]; omega)).mono ?_
  rintro e w3 ⟨A3, n3, c3, rfl, o3, hb3⟩
  have r3 := (Rd.of_own o3).any
  have K3 := Lib.hid (And.intro r3 (And.intro o3 hb3))
  have hS3 := hb3
  clear r3 o3 hb3
  refine hK (fun W => Below W0.heap.size W0 W) _ _ (fun _ h => h) hS3 ?_
  clear hK K
  try simp only [Act.put, List.setIfInBounds_toArray, List.set_cons_zero, List.set_cons_succ]
  refine wpS_last rfl (by rfl) (fun K hK => ?_)
  go_simp
  refine hK _ _ ?_
  clear hK K
  try simp only [Act.put, List.setIfInBounds_toArray, List.set_cons_zero, List.set_cons_succ]
  refine wpS_nil ?_
  go_upto_region 2 with (fail)
  refine wp_region_S 11 (fun W => Below W0.heap.size W0 W) (.take 0 (.take 1 (.take 2 (.take 3 (.take 4 (.take 6 (.take 7 (.take 8 (.take 9 (.one 5 (.one 10 (.one 11 (.nil))))))))))))) (by kernel_rfl) K3.out.2.2.drew (fun _ _ _ _ h => h) (fun hS => ?_)
  repeat (first
    | (refine wpS_take (v := ?_) rfl rfl (by rfl) ?_ ?_; rotate_left; (intro W hW; have hf := FF.out W hW; go_split_ands; go_simp; try with_reducible rfl); try simp only [Act.put, List.setIfInBounds_toArray, List.set_cons_zero, List.set_cons_succ])
    | (refine wpS_skip rfl rfl (by rfl) ?_; try simp only [Act.put, List.setIfInBounds_toArray, List.set_cons_zero, List.set_cons_succ]))
  refine wpS_one rfl (by rfl) (fun K hK => ?_)
  go_simp
  go_at_call 39
  refine (uintR_i (uN s.b) (uN_lt _) K3.out.2.2.drew K3.out.1.drew (by have := Ls.out; simp only [List.length_append, List.length_nil]; omega)).mono ?_
  rintro e w4 ⟨A4, n4, c4, rfl, o4, hb4⟩
  have r4 := (Rd.of_own o4).any
  have K4 := Lib.hid (And.intro r4 (And.intro o4 hb4))
  have hS4 := hb4
  clear r4 o4 hb4
  refine hK (fun W => Below W0.heap.size W0 W) _ _ (fun _ h => h) hS4 ?_
  clear hK K
  try simp only [Act.put, List.setIfInBounds_toArray, List.set_cons_zero, List.set_cons_succ]
  refine wpS_one rfl (by rfl) (fun K hK => ?_)
  go_simp
  go_at_call 39
  refine (uintR_i (uN s.t) (uN_lt _) K4.out.2.2 K4.out.1 (by have := Ls.out; simp only [List.length_append, List.length_nil]; omega)).mono ?_
  rintro e w5 ⟨A5, n5, c5, rfl, o5, hb5⟩
  have r5 := (Rd.of_own o5).any
  have K5 := Lib.hid (And.intro r5 (And.intro o5 hb5))
  have hS5 := hb5
  clear r5 o5 hb5
  refine hK (fun W => Below W0.heap.size W0 W) _ _ (fun _ h => h) hS5 ?_
  clear hK K
  try simp only [Act.put, List.setIfInBounds_toArray, List.set_cons_zero, List.set_cons_succ]
  refine wpS_last rfl (by rfl) (fun K hK => ?_)
  go_simp
  refine hK _ _ ?_
  clear hK K
  try simp only [Act.put, List.setIfInBounds_toArray, List.set_cons_zero, List.set_cons_succ]
  refine wpS_nil ?_
  have K5' := K5.out
  rw [Hp3.out] at K5'
  have K5b := Lib.hid K5'
  clear K5'
  go_upto_region 3 with (fail)
  refine wp_region_S 14 (fun W => Below W0.heap.size W0 W) (.take 0 (.take 1 (.take 2 (.take 5 (.take 6 (.take 8 (.take 9 (.take 10 (.take 11 (.take 12 (.one 3 (.one 4 (.one 7 (.one 13 (.one 14 (.nil)))))))))))))))) (by kernel_rfl) K5b.out.2.2.drew (fun _ _ _ _ h => h) (fun hS => ?_)
  repeat (first
    | (refine wpS_take (v := ?_) rfl rfl (by rfl) ?_ ?_; rotate_left; (intro W hW; have hf := FF.out W hW; go_split_ands; go_simp; try with_reducible rfl); try simp only [Act.put, List.setIfInBounds_toArray, List.set_cons_zero, List.set_cons_succ])
    | (refine wpS_skip rfl rfl (by rfl) ?_; try simp only [Act.put, List.setIfInBounds_toArray, List.set_cons_zero, List.set_cons_succ]))
  refine wpS_one rfl (by rfl) (fun K hK => ?_)
  go_simp
  go_at_call 41
  refine (cencR_any s.C s.nc s.cc s.cf w5.drew ((A0.out.cf.below K5b.out.2.2).drew) Lens.out.2.2.2.2.2.2.2.2.2).mono ?_
  rintro e w6 ⟨A6, n6, c6, rfl, o6, hb6⟩
  have hb6' : Below w5.heap.size w5 w6 := (Below.refl _ _).drew.trans hb6
  have r6 := (Rd.of_own o6).any
  have r5 := K5b.out.1.below hb6'
  have hS6 := K5b.out.2.2.trans (hb6'.mono K5b.out.2.2.size)
  have K6 := Lib.hid (And.intro r6 (And.intro r5 hS6))
  clear r6 r5 o6 hb6 hb6'
  refine hK (fun W => Below W0.heap.size W0 W) _ _ (fun _ h => h) hS6 ?_
  clear hK K
  try simp only [Act.put, List.setIfInBounds_toArray, List.set_cons_zero, List.set_cons_succ]
  refine wpS_one rfl (by rfl) (fun K hK => ?_)
  go_simp
  go_at_call 40
  refine (bytesR_i A6 n6 c6 (confL s.cf) K6.out.2.2 K6.out.2.1 (by have := Lens.out.2.2.1; omega) K6.out.1 (by have := Lens.out.1; omega)).mono ?_
  rintro e w7 ⟨A7, n7, c7, rfl, o7, hb7⟩
  have r7 := (Rd.of_own o7).any
  have K7 := Lib.hid (And.intro r7 (And.intro o7 hb7))
  have hS7 := hb7
  clear r7 o7 hb7
  refine hK (fun W => Below W0.heap.size W0 W) _ _ (fun _ h => h) hS7 ?_
  clear hK K
  try simp only [Act.put, List.setIfInBounds_toArray, List.set_cons_zero, List.set_cons_succ]
  refine wpS_one rfl (by rfl) (fun K hK => ?_)
  go_simp
  go_at_call 40
  refine (bytesR_i s.S s.ns s.cs s.sn K7.out.2.2 K7.out.1 (by have := Lens.out; simp only [List.length_append]; omega) ((A0.out.sn.any).below K7.out.2.2) (by have := Lens.out; omega)).mono ?_
  rintro e w8 ⟨A8, n8, c8, rfl, o8, hb8⟩
  have r8 := (Rd.of_own o8).any
  have K8 := Lib.hid (And.intro r8 (And.intro o8 hb8))
  have hS8 := hb8
  clear r8 o8 hb8
  refine hK (fun W => Below W0.heap.size W0 W) _ _ (fun _ h => h) hS8 ?_
  clear hK K
  try simp only [Act.put, List.setIfInBounds_toArray, List.set_cons_zero, List.set_cons_succ]
  refine wpS_one rfl (by rfl) (fun K hK => ?_)
  go_simp
  go_at_call 39
  refine (uintR_i s.n (by omega) K8.out.2.2 K8.out.1 (by have := Lens.out; simp only [List.length_append]; omega)).mono ?_
  rintro e w9 ⟨A9, n9, c9, rfl, o9, hb9⟩
  have r9 := (Rd.of_own o9).any
  have K9 := Lib.hid (And.intro r9 (And.intro o9 hb9))
  have hS9 := hb9
  clear r9 o9 hb9
  refine hK (fun W => Below W0.heap.size W0 W) _ _ (fun _ h => h) hS9 ?_
  clear hK K
  try simp only [Act.put, List.setIfInBounds_toArray, List.set_cons_zero, List.set_cons_succ]
  refine wpS_last rfl (by rfl) (fun K hK => ?_)
  go_simp
  refine hK _ _ ?_
  clear hK K
  try simp only [Act.put, List.setIfInBounds_toArray, List.set_cons_zero, List.set_cons_succ]
  refine wpS_nil ?_
  have K9' := K9.out
  rw [← Lens.out.2.2.2.2.2.2.2.1] at K9'
  have K9b := Lib.hid K9'
  clear K9' hS1 hS2 hS3 hS4 hS5 hS6 hS7 hS8 hS9
  obtain ⟨Ax, hAx⟩ : ∃ Ax, s.A = Ax := ⟨_, rfl⟩
  have rl := A0.out.l
  have F2 : ∀ W, Below W0.heap.size W0 W → W.cell? ⟨w.heap.size, 4, none⟩ = some (.slice s.A s.n s.c) := fun W hb => (FF.out W hb).2.2.2.2.1
  rw [hAx] at rl F2 ⊢
  clear hAx
  have FX := Lib.hid F2
  clear F2
  have c4 := FX.out w9 K9b.out.2.2
  go_wp2_with fail
  go_loopg [5, 6] s.n (fun m s5 s6 wr => ∃ (j : Nat) (Aj : Option Addr) (nj cj : Nat), m = s.n - j ∧ j ≤ s.n ∧ s6 = .int .i64 j ∧ s5 = .slice Aj nj cj ∧ wr.ownsRow W0.heap.size 5 1 (.slice Aj nj cj) nj (bs (M1 ++ entF ((s.L.map en).take j))) ∧ Below W0.heap.size W0 wr)
  case atStart => exact ⟨0, _, _, _, by omega, by omega, rfl, rfl, by simpa [entF] using K9b.out.2.1, K9b.out.2.2⟩
  case round =>
    clear c4
    obtain ⟨j, Aj, nj, cj, hm, hj, rfl, rfl, ho, hb⟩ := hrel
    have Hm := Lib.hid hm
    have Ho := Lib.hid (And.intro ho hb)
    have c4 := FX.out wr hb
    clear hm ho hb
    by_cases hlt : j < s.n
    · obtain ⟨b, o, x, rfl, _, hbl, hx, d0, d1, d2, d3⟩ := er_cells ((rl.mono fun b hb => hb.2).below Ho.out.2) hlt
      have hltI : (j : Int) < s.n := by omega
      have h0I : (0 : Int) ≤ j := by omega
      have hxl := Hxd.out x (List.mem_of_getElem? hx)
      have hdx := A0.out.d x (List.mem_of_getElem? hx)
      have hfx := hf.w x (List.mem_of_getElem? hx)
      have hxs : (s.L.map en).take (j + 1) = (s.L.map en).take j ++ [en x] := by
        rw [List.take_add_one, List.getElem?_map, hx]
        rfl
      have hlen : (M1 ++ entF ((s.L.map en).take j)).length ≤ 1000500000000 := by
        have h1 := Hen.out j
        have h2 := Lens.out.2.2.2.2.2.2.1
        rw [List.length_append]
        omega
      have hil := encI_len (en x) (by have : (en x).d.length ≤ 1000000 := hxl; omega)
      have hil2 : (encI (en x)).length ≤ 1000088 := by have : (en x).d.length ≤ 1000000 := hxl; omega
      have hec : Calls Tryz.prog 42 #[.agg #[.int .i64 x.a, .int .i64 x.b, .int .i64 x.c, .slice x.A x.n x.m]] wr (BytesPost wr (encI (en x))) := encodeR_int x.a x.b x.c x.A x.n x.m x.d wr (hdx.1.any.below Ho.out.2) hfx.2
      have Hx := Lib.hid (And.intro hxs (And.intro hlen hil2))
      have Hec := Lib.hid hec
      clear hxl hdx hfx hxs hlen hx hil hil2 hec
      go_wp2_with fail
      refine Hec.out.mono ?_
      rintro e v1 ⟨A1, n1, c1, rfl, o1, hb1⟩
      have r1 := (Rd.of_own o1).any
      have r0 := (Rd.of_own Ho.out.1).any.below hb1
      have hb2 := Ho.out.2.trans (hb1.mono Ho.out.2.size)
      have V1 := Lib.hid (And.intro r1 (And.intro r0 hb2))
      clear r1 r0 hb2 o1 hb1
      go_wp2_with fail
      refine (bytesR_i A1 n1 c1 (encI (en x)) V1.out.2.2 V1.out.2.1 (by have := Hx.out.2.1; omega) V1.out.1 (by have := Hx.out.2.2; omega)).mono ?_
      rintro e v2 ⟨A2, n2, c2, rfl, o2, hb2⟩
      have o2' : v2.ownsRow W0.heap.size 5 1 (.slice A2 n2 c2) n2 (bs (M1 ++ entF ((s.L.map en).take (j + 1)))) := by
        rw [Hx.out.1, entF_snoc, ← List.append_assoc]
        exact o2
      have V2 := Lib.hid (And.intro o2' hb2)
      clear o2 o2' hb2
      go_wp2_with fail
      go_roundg (s.n - (j + 1))
      case measure => have := Hm.out; omega
      case rel => exact ⟨j + 1, _, _, _, rfl, by omega, by go_num, rfl, V2.out.1, V2.out.2⟩
    · obtain rfl : j = s.n := by omega
      have hz := B.out.1.size
      have ho : wr.ownsRow w.heap.size 5 1 (.slice Aj nj cj) nj (bs (M1 ++ entF (s.L.map en))) := by
        have := Ho.out.1
        rw [List.take_of_length_le (Nat.le_of_eq (by rw [List.length_map]; exact Hl.out))] at this
        exact own_dn this hz
      have Hoo := Lib.hid ho
      clear ho
      go_wp2_with fail
      go_ret
      exact ⟨_, _, _, rfl, Hoo.out, B.out.1.trans (Ho.out.2.mono B.out.1.size)⟩
end Go.Proofs.YtlecglmiigdjlaaGreatDoor
