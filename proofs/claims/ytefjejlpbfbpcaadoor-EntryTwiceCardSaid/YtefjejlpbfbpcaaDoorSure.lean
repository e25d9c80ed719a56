/- Walk of the law's sure. -/
import Derived.Test.YtefjejlpbfbpcaaDoorMerge
namespace Go.Proofs.YtefjejlpbfbpcaaDoor
open Go.RowKit
set_option maxRecDepth 100000
set_option linter.unusedVariables false
set_option linter.unusedSimpArgs false
def LS : List En := [⟨1, 1, 1, []⟩, ⟨2, 1, 1, []⟩, ⟨3, 2, 1, []⟩]
/-- What is known of such a log's rows. -/
theorem few_wel {w : World} {L : List Er} {l : List En} (hd : Dat w L) (he : L.map en = l) (hl : ∀ e ∈ l, I64 e.a ∧ I64 e.b ∧ I64 e.c ∧ e.d = []) : Wel L ∧ ∀ x ∈ L, x.n ≤ 1000000 := by
  have h : ∀ x ∈ L, W64 x ∧ x.n = x.d.length ∧ x.d = [] := by
    intro x hx
    have hm : en x ∈ l := by rw [← he]; exact List.mem_map.2 ⟨x, hx, rfl⟩
    obtain ⟨h1, h2, h3, h4⟩ := hl _ hm
    exact ⟨⟨h1, h2, h3⟩, ((hd x hx).1.blen).symm, h4⟩
  refine ⟨fun x hx => ⟨(h x hx).1, (h x hx).2.1⟩, fun x hx => ?_⟩
  rw [(h x hx).2.1, (h x hx).2.2]
  simp
theorem LS_ok : ∀ e ∈ LS, I64 e.a ∧ I64 e.b ∧ I64 e.c ∧ e.d = [] := by
  intro e he
  simp only [LS, List.mem_cons, List.not_mem_nil, or_false] at he
  rcases he with rfl | rfl | rfl <;> (unfold I64; refine ⟨?_, ?_, ?_, rfl⟩ <;> constructor <;> decide)
set_option maxHeartbeats 1600000 in
theorem sure_any (w : World) : Calls Tryd.prog 9 #[] w (YesPost w) := by
  go_enter Tryd.func9, Tryd.ntmps9
  have x0 := Bx.new w #[.int .i64 0, .int .i64 0, .slice none 0 0] 31 rfl
  have h0 : Below w.heap.size w (w.alloc (.cells #[.int .i64 0, .int .i64 0, .slice none 0 0] 31)) := (Below.refl _ _).alloc (Nat.le_refl _) _
  go_wp2_with fail
  go_loopg [2, 3, 4] 3 (fun m s2 s3 s4 wr => ∃ (i : Nat) (A : Option Addr) (c : Nat) (L : List Er), m = 3 - i ∧ i ≤ 3 ∧ s2 = .int .i64 i ∧ Bx wr w.heap.size #[.int .i64 0, .int .i64 0, .slice A i c] ∧ Rd wr T 4 A i (flat ecell L) ∧ Dat wr L ∧ L.map en = LS.take i ∧ Below w.heap.size w wr)
  case atStart => exact ⟨0, none, 0, [], by omega, by omega, rfl, x0, Rd.none_, (fun x hx => by cases hx), rfl, h0⟩
  case round =>
    obtain ⟨i, A, c, L, hm, hi, rfl, hbx, hrd, hda, hen, hb⟩ := hrel
    obtain ⟨k0, k1, k2, f0, f1, f2⟩ := hbx.c3
    have hok : ∀ e ∈ LS.take i, I64 e.a ∧ I64 e.b ∧ I64 e.c ∧ e.d = [] := fun e he => LS_ok e (List.mem_of_mem_take he)
    obtain ⟨hwel, hsm⟩ := few_wel hda hen hok
    have Hm := Lib.hid hm
    have Hbx := Lib.hid hbx
    have Hb := Lib.hid hb
    have hlw := hbx.lt
    clear hm hbx hb x0 h0 hok
    by_cases h3 : i = 3
    · subst h3
      have e3 : L.map en = LS := by rw [hen]; rfl
      have hda2 := hda
      have mr : ∀ W, Rd ((W : World).alloc (.cells #[.int .i64 3, .int .i64 3, .int .i64 0, .slice none 0 0] 39)) T 4 (some ⟨W.heap.size, 0, none⟩) 1 (flat ecell [⟨3, 3, 0, none, 0, 0, []⟩]) := fun W => by
        have := Rd.lit4 W (cs := #[.int .i64 3, .int .i64 3, .int .i64 0, .slice none 0 0]) 39 (fr := (0, 0)) rfl
        rw [flat_one]
        exact this
      have hml : mloop 0 (LS, max 2 0) [⟨3, 3, 0, []⟩] = ([⟨1, 1, 1, []⟩, ⟨2, 1, 1, []⟩, ⟨3, 3, 0, []⟩], 3) := by rfl
      have hmg := merge_yes 0 0 2 1 A 3 c L (some ⟨wr.heap.size, 0, none⟩) 1 1 [⟨3, 3, 0, none, 0, 0, []⟩] (wr.alloc (.cells #[.int .i64 3, .int .i64 3, .int .i64 0, .slice none 0 0] 39)) (hrd.alloc _) (hda.below ((Below.refl _ _).alloc (Nat.le_refl _) _)) hwel hsm (by rw [e3]; decide) (by decide) (mr wr) (fun x hx => by obtain rfl := List.mem_singleton.1 hx; exact ⟨Rd.none_, Nat.le_refl _, by simp [maxLen]⟩) (fun x hx => by obtain rfl := List.mem_singleton.1 hx; exact ⟨⟨by constructor <;> decide, by constructor <;> decide, by constructor <;> decide⟩, rfl⟩) (fun x hx => by obtain rfl := List.mem_singleton.1 hx; decide) (by omega) (by omega) (by decide) (by rw [e3]; decide) (by rw [e3]; decide) (by rw [e3]; show lmay 0 0 (mloop 0 (LS, max 2 0) [⟨3, 3, 0, []⟩]).1 = true; rw [hml]; decide)
      rw [e3] at hmg
      have hmg2 : Calls Tryd.prog 10 #[.agg #[.int .i64 0, .int .i64 0, .slice A 3 c], .int .i64 2, .int .i64 1, .slice (some ⟨wr.heap.size, 0, none⟩) 1 1] (wr.alloc (.cells #[.int .i64 3, .int .i64 3, .int .i64 0, .slice none 0 0] 39)) (MergeYes (wr.alloc (.cells #[.int .i64 3, .int .i64 3, .int .i64 0, .slice none 0 0] 39)) 0 0 3 [⟨1, 1, 1, []⟩, ⟨2, 1, 1, []⟩, ⟨3, 3, 0, []⟩]) := hmg
      have Hmg := Lib.hid hmg2
      have Hen := Lib.hid e3
      clear hmg hmg2 hrd hda hda2 hwel hsm hen e3 mr hml
      go_wp2_with fail
      refine Hmg.out.mono ?_
      rintro e w2 ⟨A2, n2, c2, L2, rfl, r2, d2, e2, hc2, hb2⟩
      have hn2 : n2 = 3 := by
        have h1 := r2.flen ecell_len (by omega)
        have h2 := congrArg List.length e2
        simp at h2
        omega
      subst hn2
      obtain ⟨hwel2, hsm2⟩ := few_wel d2 e2 (by
        intro e he
        simp only [List.mem_cons, List.not_mem_nil, or_false] at he
        rcases he with rfl | rfl | rfl <;> (unfold I64; refine ⟨?_, ?_, ?_, rfl⟩ <;> constructor <;> decide))
      have hla := fun ob => Last_any 0 0 A2 3 c2 L2 (w2.alloc ob) (r2.alloc ob) hwel2 (by rw [e2]; decide) (by omega)
      rw [e2] at hla
      have hla2 : ∀ ob, Calls Tryd.prog 24 #[.agg #[.int .i64 0, .int .i64 0, .slice A2 3 c2]] (w2.alloc ob) (TwoInt (w2.alloc ob) 3 3) := hla
      have Hla := Lib.hid hla2
      have hb3 := (Hb.out.alloc Hb.out.size (.cells #[.int .i64 3, .int .i64 3, .int .i64 0, .slice none 0 0] 39)).trans (hb2.mono (by simp; have := Hb.out.size; omega))
      clear hla hla2 r2 d2 e2 hwel2 hsm2 hb2
      go_wp2_with fail
      refine (Hla.out _).mono ?_
      rintro e w3 ⟨rfl, hb4⟩
      go_wp2_with fail
      go_ret
      have hb5 := hb3.alloc hb3.size (.cells #[.int .i64 0, .int .i64 0, .slice A2 3 c2] 31)
      exact ⟨rfl, hb5.trans (hb4.mono hb5.size)⟩
    · have hi3 : i = 0 ∨ i = 1 ∨ i = 2 := by omega
      rcases hi3 with rfl | rfl | rfl
      · have hadd := add_yes 0 0 1 1 A 0 c L none 0 0 [] wr hrd hda hwel hsm (by rw [hen]; decide) Rd.none_ (by decide) (by rw [hen]; decide) (by decide) (by decide) (by decide) (by decide) (by rw [hen]; decide) (by decide)
        have Hadd := Lib.hid hadd
        have Hen := Lib.hid hen
        clear hadd hrd hda hwel hsm hen
        go_wp2_with fail
        refine Hadd.out.mono ?_
        rintro e w2 ⟨A2, c2, L2, rfl, r2, d2, e2, hc2, hb2⟩
        have hbx2 := Hbx.out.below hb2
        obtain ⟨k0, k1, k2, f0, f1, f2⟩ := hbx2.c3
        have hz2 := hb2.size
        have g0 : ∀ ob, (w2.alloc ob).frozen? ⟨w.heap.size, 0, none⟩ = false := fun ob => (hbx2.alloc ob).f 0
        have g1 : ∀ ob, (w2.alloc ob).frozen? ⟨w.heap.size, 1, none⟩ = false := fun ob => (hbx2.alloc ob).f 1
        have g2 : ∀ ob, (w2.alloc ob).frozen? ⟨w.heap.size, 2, none⟩ = false := fun ob => (hbx2.alloc ob).f 2
        have j0 : ∀ ob, (w2.alloc ob).cell? ⟨w.heap.size, 0, none⟩ = some (.int .i64 0) := fun ob => (hbx2.alloc ob).c 0
        have j1 : ∀ ob, (w2.alloc ob).cell? ⟨w.heap.size, 1, none⟩ = some (.int .i64 0) := fun ob => (hbx2.alloc ob).c 1
        have j2 : ∀ ob, (w2.alloc ob).cell? ⟨w.heap.size, 2, none⟩ = some (.slice A 0 c) := fun ob => (hbx2.alloc ob).c 2
        have n1 : ¬ w2.heap.size = w.heap.size := by omega
        have n2 : ¬ w.heap.size = w2.heap.size := by omega
        have R2 := Lib.hid r2
        have D2 := Lib.hid d2
        have E2 := Lib.hid e2
        have Hbx2 := Lib.hid hbx2
        have Hb2 := Lib.hid hb2
        clear r2 d2 e2 hbx2 hb2
        go_wp2_with fail
        have hne : ¬ wr.heap.size ≤ w.heap.size := by omega
        have hb3 := Hb.out.trans (Hb2.out.mono Hb.out.size)
        go_roundg (3 - (0 + 1))
        case measure => have := Hm.out; omega
        case rel =>
          refine ⟨1, A2, c2, L2, rfl, by omega, by go_num, ?_, ?_, ?_, ?_, ?_⟩
          · exact ((((Hbx2.out.alloc (.cells #[.int .i64 0, .int .i64 0, .slice A2 1 c2] 31)).set 0 _).set 1 _).set 2 _)
          · exact ((((R2.out.alloc (.cells #[.int .i64 0, .int .i64 0, .slice A2 1 c2] 31)).setCell (p := ⟨w.heap.size, 0, none⟩) hne _).setCell (p := ⟨w.heap.size, 1, none⟩) hne _).setCell (p := ⟨w.heap.size, 2, none⟩) hne _).any
          · exact ((((D2.out.below ((Below.refl _ _).alloc (Nat.le_refl _) (.cells #[.int .i64 0, .int .i64 0, .slice A2 1 c2] 31))).set (p := ⟨w.heap.size, 0, none⟩) hne _).set (p := ⟨w.heap.size, 1, none⟩) hne _).set (p := ⟨w.heap.size, 2, none⟩) hne _).dat
          · rw [E2.out, Hen.out]; rfl
          · exact (((hb3.alloc hb3.size _).setCell (Nat.le_refl _) _).setCell (Nat.le_refl _) _).setCell (Nat.le_refl _) _
      · have hadd := add_yes 0 0 1 1 A 1 c L none 0 0 [] wr hrd hda hwel hsm (by rw [hen]; decide) Rd.none_ (by decide) (by rw [hen]; decide) (by decide) (by decide) (by decide) (by decide) (by rw [hen]; decide) (by decide)
        have Hadd := Lib.hid hadd
        have Hen := Lib.hid hen
        clear hadd hrd hda hwel hsm hen
        go_wp2_with fail
        refine Hadd.out.mono ?_
        rintro e w2 ⟨A2, c2, L2, rfl, r2, d2, e2, hc2, hb2⟩
        have hbx2 := Hbx.out.below hb2
        obtain ⟨k0, k1, k2, f0, f1, f2⟩ := hbx2.c3
        have hz2 := hb2.size
        have g0 : ∀ ob, (w2.alloc ob).frozen? ⟨w.heap.size, 0, none⟩ = false := fun ob => (hbx2.alloc ob).f 0
        have g1 : ∀ ob, (w2.alloc ob).frozen? ⟨w.heap.size, 1, none⟩ = false := fun ob => (hbx2.alloc ob).f 1
        have g2 : ∀ ob, (w2.alloc ob).frozen? ⟨w.heap.size, 2, none⟩ = false := fun ob => (hbx2.alloc ob).f 2
        have j0 : ∀ ob, (w2.alloc ob).cell? ⟨w.heap.size, 0, none⟩ = some (.int .i64 0) := fun ob => (hbx2.alloc ob).c 0
        have j1 : ∀ ob, (w2.alloc ob).cell? ⟨w.heap.size, 1, none⟩ = some (.int .i64 0) := fun ob => (hbx2.alloc ob).c 1
        have j2 : ∀ ob, (w2.alloc ob).cell? ⟨w.heap.size, 2, none⟩ = some (.slice A 1 c) := fun ob => (hbx2.alloc ob).c 2
        have n1 : ¬ w2.heap.size = w.heap.size := by omega
        have n2 : ¬ w.heap.size = w2.heap.size := by omega
        have R2 := Lib.hid r2
        have D2 := Lib.hid d2
        have E2 := Lib.hid e2
        have Hbx2 := Lib.hid hbx2
        have Hb2 := Lib.hid hb2
        clear r2 d2 e2 hbx2 hb2
        go_wp2_with fail
        have hne : ¬ wr.heap.size ≤ w.heap.size := by omega
        have hb3 := Hb.out.trans (Hb2.out.mono Hb.out.size)
        go_roundg (3 - (1 + 1))
        case measure => have := Hm.out; omega
        case rel =>
          refine ⟨2, A2, c2, L2, rfl, by omega, by go_num, ?_, ?_, ?_, ?_, ?_⟩
          · exact ((((Hbx2.out.alloc (.cells #[.int .i64 0, .int .i64 0, .slice A2 2 c2] 31)).set 0 _).set 1 _).set 2 _)
          · exact ((((R2.out.alloc (.cells #[.int .i64 0, .int .i64 0, .slice A2 2 c2] 31)).setCell (p := ⟨w.heap.size, 0, none⟩) hne _).setCell (p := ⟨w.heap.size, 1, none⟩) hne _).setCell (p := ⟨w.heap.size, 2, none⟩) hne _).any
          · exact ((((D2.out.below ((Below.refl _ _).alloc (Nat.le_refl _) (.cells #[.int .i64 0, .int .i64 0, .slice A2 2 c2] 31))).set (p := ⟨w.heap.size, 0, none⟩) hne _).set (p := ⟨w.heap.size, 1, none⟩) hne _).set (p := ⟨w.heap.size, 2, none⟩) hne _).dat
          · rw [E2.out, Hen.out]; rfl
          · exact (((hb3.alloc hb3.size _).setCell (Nat.le_refl _) _).setCell (Nat.le_refl _) _).setCell (Nat.le_refl _) _
      · have hadd := add_yes 0 0 2 1 A 2 c L none 0 0 [] wr hrd hda hwel hsm (by rw [hen]; decide) Rd.none_ (by decide) (by rw [hen]; decide) (by decide) (by decide) (by decide) (by decide) (by rw [hen]; decide) (by decide)
        have Hadd := Lib.hid hadd
        have Hen := Lib.hid hen
        clear hadd hrd hda hwel hsm hen
        go_wp2_with fail
        refine Hadd.out.mono ?_
        rintro e w2 ⟨A2, c2, L2, rfl, r2, d2, e2, hc2, hb2⟩
        have hbx2 := Hbx.out.below hb2
        obtain ⟨k0, k1, k2, f0, f1, f2⟩ := hbx2.c3
        have hz2 := hb2.size
        have g0 : ∀ ob, (w2.alloc ob).frozen? ⟨w.heap.size, 0, none⟩ = false := fun ob => (hbx2.alloc ob).f 0
        have g1 : ∀ ob, (w2.alloc ob).frozen? ⟨w.heap.size, 1, none⟩ = false := fun ob => (hbx2.alloc ob).f 1
        have g2 : ∀ ob, (w2.alloc ob).frozen? ⟨w.heap.size, 2, none⟩ = false := fun ob => (hbx2.alloc ob).f 2
        have j0 : ∀ ob, (w2.alloc ob).cell? ⟨w.heap.size, 0, none⟩ = some (.int .i64 0) := fun ob => (hbx2.alloc ob).c 0
        have j1 : ∀ ob, (w2.alloc ob).cell? ⟨w.heap.size, 1, none⟩ = some (.int .i64 0) := fun ob => (hbx2.alloc ob).c 1
        have j2 : ∀ ob, (w2.alloc ob).cell? ⟨w.heap.size, 2, none⟩ = some (.slice A 2 c) := fun ob => (hbx2.alloc ob).c 2
        have n1 : ¬ w2.heap.size = w.heap.size := by omega
        have n2 : ¬ w.heap.size = w2.heap.size := by omega
        have R2 := Lib.hid r2
        have D2 := Lib.hid d2
        have E2 := Lib.hid e2
        have Hbx2 := Lib.hid hbx2
        have Hb2 := Lib.hid hb2
        clear r2 d2 e2 hbx2 hb2
        go_wp2_with fail
        have hne : ¬ wr.heap.size ≤ w.heap.size := by omega
        have hb3 := Hb.out.trans (Hb2.out.mono Hb.out.size)
        go_roundg (3 - (2 + 1))
        case measure => have := Hm.out; omega
        case rel =>
          refine ⟨3, A2, c2, L2, rfl, by omega, by go_num, ?_, ?_, ?_, ?_, ?_⟩
          · exact ((((Hbx2.out.alloc (.cells #[.int .i64 0, .int .i64 0, .slice A2 3 c2] 31)).set 0 _).set 1 _).set 2 _)
          · exact ((((R2.out.alloc (.cells #[.int .i64 0, .int .i64 0, .slice A2 3 c2] 31)).setCell (p := ⟨w.heap.size, 0, none⟩) hne _).setCell (p := ⟨w.heap.size, 1, none⟩) hne _).setCell (p := ⟨w.heap.size, 2, none⟩) hne _).any
          · exact ((((D2.out.below ((Below.refl _ _).alloc (Nat.le_refl _) (.cells #[.int .i64 0, .int .i64 0, .slice A2 3 c2] 31))).set (p := ⟨w.heap.size, 0, none⟩) hne _).set (p := ⟨w.heap.size, 1, none⟩) hne _).set (p := ⟨w.heap.size, 2, none⟩) hne _).dat
          · rw [E2.out, Hen.out]; rfl
          · exact (((hb3.alloc hb3.size _).setCell (Nat.le_refl _) _).setCell (Nat.le_refl _) _).setCell (Nat.le_refl _) _
end Go.Proofs.YtefjejlpbfbpcaaDoor
