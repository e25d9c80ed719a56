/- Walks: the law's entries, sameLog. (Printed by mkents.py.) -/
import Derived.Test.YtefjejlpbfbpcaaDoorEncR
import Derived.Test.YtefjejlpbfbpcaaDoorLong
import Derived.Deep.LoopGhost
namespace Go.Proofs.YtefjejlpbfbpcaaDoor
open Go.RowKit
set_option maxRecDepth 100000
set_option linter.unusedVariables false
set_option linter.unusedSimpArgs false
/-- An entry that can be written as bytes. -/
def Wt (x : Er) : Prop := 0 ≤ x.a ∧ x.a ≤ 9223372036854775807 ∧ 0 ≤ x.b ∧ x.b ≤ 9223372036854775807 ∧ 0 ≤ x.c ∧ x.c ≤ 9223372036854775807 ∧ x.n ≤ 1000000
def ecA (x : Er) : Value := .agg #[.int .i64 x.a, .int .i64 x.b, .int .i64 x.c, .slice x.A x.n x.m]
theorem enc_er (x : Er) (w : World) (h : Wt x) (hr : Rd w T 1 x.A x.n (bs x.d)) (htab : TabW w) : Calls Tryd.prog 13 #[ecA x] w (BytesPost w (encE (en x))) := by
  obtain ⟨a, b, c, A, n, m, d⟩ := x
  obtain ⟨h1, h2, h3, h4, h5, h6, h7⟩ := h
  dsimp only at h1 h2 h3 h4 h5 h6 h7 hr
  obtain ⟨a', rfl⟩ : ∃ q : Nat, a = q := ⟨a.toNat, by omega⟩
  obtain ⟨b', rfl⟩ : ∃ q : Nat, b = q := ⟨b.toNat, by omega⟩
  obtain ⟨c', rfl⟩ : ∃ q : Nat, c = q := ⟨c.toNat, by omega⟩
  exact encode_nat a' b' c' A n m d w (by omega) (by omega) (by omega) hr h7 htab
theorem encR_er (x : Er) (w : World) (h : Wt x) (hr : Rd w T 1 x.A x.n (bs x.d)) : Calls Tryd.prog 29 #[ecA x] w (BytesPost w (encE (en x))) := by
  obtain ⟨a, b, c, A, n, m, d⟩ := x
  obtain ⟨h1, h2, h3, h4, h5, h6, h7⟩ := h
  dsimp only at h1 h2 h3 h4 h5 h6 h7 hr
  obtain ⟨a', rfl⟩ : ∃ q : Nat, a = q := ⟨a.toNat, by omega⟩
  obtain ⟨b', rfl⟩ : ∃ q : Nat, b = q := ⟨b.toNat, by omega⟩
  obtain ⟨c', rfl⟩ : ∃ q : Nat, c = q := ⟨c.toNat, by omega⟩
  exact encodeR_nat a' b' c' A n m d w (by omega) (by omega) (by omega) hr h7
theorem entries_no (A : Option Addr) (n c : Nat) (B : Option Addr) (m d : Nat) (w : World) (h : n ≠ m) : Calls Tryd.prog 14 #[.slice A n c, .slice B m d] w (BoolPost w false) := by
  have hd : ((n : Int) != (m : Int)) = true := by simp; omega
  clear h
  go_enter Tryd.func14, Tryd.ntmps14
  go_wp2_with fail
  go_ret
  exact ⟨rfl, Below.refl _ _⟩
set_option maxHeartbeats 6400000 in
theorem entries_yes (A : Option Addr) (n c : Nat) (L : List Er) (B : Option Addr) (d : Nat) (L' : List Er) (w : World) {ok ok' : Nat → Prop} (hr : Rd w ok 4 A n (flat ecell L)) (hr' : Rd w ok' 4 B n (flat ecell L')) (hd : ∀ x ∈ L, Rd w T 1 x.A x.n (bs x.d)) (hd' : ∀ x ∈ L', Rd w T 1 x.A x.n (bs x.d)) (hs : L'.map en = L.map en) (hw : ∀ x ∈ L, Wt x) (hw' : ∀ x ∈ L', Wt x) (hn : n ≤ 1000000) (htab : TabW w) :
    Calls Tryd.prog 14 #[.slice A n c, .slice B n d] w (BoolPost w true) := by
  have hnn : ((n : Int) != (n : Int)) = false := by simp
  have henc := fun x (hx : x ∈ L) W (hb : Below w.heap.size w W) => enc_er x W (hw x hx) ((hd x hx).below hb) (htab.below hb (Nat.le_refl _))
  have hencR := fun x (hx : x ∈ L') W (hb : Below w.heap.size w W) => encR_er x W (hw' x hx) ((hd' x hx).below hb)
  unfold ecA at henc hencR
  have Henc := Lib.hid henc
  have HencR := Lib.hid hencR
  have Hr := Lib.hid hr
  have Hr' := Lib.hid hr'
  have Hs := Lib.hid hs
  clear henc hencR hr hr' hd hd' hs hw hw' htab
  go_enter Tryd.func14, Tryd.ntmps14
  go_wp2_with fail
  go_loopg [5] n (fun mu s5 wr => ∃ k, mu = n - k ∧ k ≤ n ∧ s5 = .int .i64 (k : Nat) ∧ Below w.heap.size w wr)
  case atStart => exact ⟨0, by omega, by omega, rfl, Below.refl _ _⟩
  case round =>
    obtain ⟨k, hmu, hk, rfl, hbe⟩ := hrel
    have Hmu := Lib.hid hmu
    have Hbe := Lib.hid hbe
    clear hmu
    obtain ⟨wq, rfl⟩ : ∃ wq, wq = wr := ⟨_, rfl⟩
    by_cases hlt : k < n
    · obtain ⟨xb, xo, x, hxA, -, -, hx, x0, x1, x2, x3⟩ := er_cells (Hr.out.below hbe) hlt
      obtain ⟨yb, yo, y, hyA, -, -, hy, y0, y1, y2, y3⟩ := er_cells (Hr'.out.below hbe) hlt
      subst hxA hyA
      have hpe : en y = en x := by
        have h1 := congrArg (fun M => M[k]?) Hs.out
        simp only [List.getElem?_map, hx, hy, Option.map_some, Option.some.injEq] at h1
        exact h1
      have hkI : (k : Int) < n := by omega
      have hk0 : (0 : Int) ≤ k := by omega
      have sof : ∀ W, Below wq.heap.size wq W → (Below wq.heap.size wq W ∧ W.cell? ⟨xb, xo + k * 4, none⟩ = some (.int .i64 x.a) ∧ W.cell? ⟨xb, xo + k * 4 + 1, none⟩ = some (.int .i64 x.b) ∧ W.cell? ⟨xb, xo + k * 4 + 2, none⟩ = some (.int .i64 x.c) ∧ W.cell? ⟨xb, xo + k * 4 + 3, none⟩ = some (.slice x.A x.n x.m) ∧ W.cell? ⟨yb, yo + k * 4, none⟩ = some (.int .i64 y.a) ∧ W.cell? ⟨yb, yo + k * 4 + 1, none⟩ = some (.int .i64 y.b) ∧ W.cell? ⟨yb, yo + k * 4 + 2, none⟩ = some (.int .i64 y.c) ∧ W.cell? ⟨yb, yo + k * 4 + 3, none⟩ = some (.slice y.A y.n y.m)) :=
        fun W h => ⟨h, (h.cell (p := ⟨xb, _, none⟩) (World.block_lt_of_cell? wq _ x0)).trans x0, (h.cell (p := ⟨xb, _, none⟩) (World.block_lt_of_cell? wq _ x1)).trans x1, (h.cell (p := ⟨xb, _, none⟩) (World.block_lt_of_cell? wq _ x2)).trans x2, (h.cell (p := ⟨xb, _, none⟩) (World.block_lt_of_cell? wq _ x3)).trans x3, (h.cell (p := ⟨yb, _, none⟩) (World.block_lt_of_cell? wq _ y0)).trans y0, (h.cell (p := ⟨yb, _, none⟩) (World.block_lt_of_cell? wq _ y1)).trans y1, (h.cell (p := ⟨yb, _, none⟩) (World.block_lt_of_cell? wq _ y2)).trans y2, (h.cell (p := ⟨yb, _, none⟩) (World.block_lt_of_cell? wq _ y3)).trans y3⟩
      have he := fun W (hb : Below wq.heap.size wq W) => Henc.out x (List.mem_of_getElem? hx) W (hbe.trans (hb.mono hbe.size))
      have heR := fun W (hb : Below wq.heap.size wq W) => HencR.out y (List.mem_of_getElem? hy) W (hbe.trans (hb.mono hbe.size))
      rw [hpe] at heR
      have s0 := sof _ (Below.refl _ _).drew
      have Sof := Lib.hid sof
      have He := Lib.hid he
      have HeR := Lib.hid heR
      clear hpe hx hy sof he heR hbe x0 x1 x2 x3 y0 y1 y2 y3
      generalize encE (en x) = E at He HeR
      go_upto_region 6 with (fail)
      go_cut [29] (fun s29 W => s29 = .bool false ∧ Below wq.heap.size wq W)
      case first =>
        refine wp_region_M 12 (fun W => Below wq.heap.size wq W ∧ W.cell? ⟨xb, xo + k * 4, none⟩ = some (.int .i64 x.a) ∧ W.cell? ⟨xb, xo + k * 4 + 1, none⟩ = some (.int .i64 x.b) ∧ W.cell? ⟨xb, xo + k * 4 + 2, none⟩ = some (.int .i64 x.c) ∧ W.cell? ⟨xb, xo + k * 4 + 3, none⟩ = some (.slice x.A x.n x.m) ∧ W.cell? ⟨yb, yo + k * 4, none⟩ = some (.int .i64 y.a) ∧ W.cell? ⟨yb, yo + k * 4 + 1, none⟩ = some (.int .i64 y.b) ∧ W.cell? ⟨yb, yo + k * 4 + 2, none⟩ = some (.int .i64 y.c) ∧ W.cell? ⟨yb, yo + k * 4 + 3, none⟩ = some (.slice y.A y.n y.m)) (by kernel_rfl) s0 (fun hS => ?_)
        refine wpAnyM_take (i := 0) (v := ?_) rfl (by kernel_rfl) (by kernel_rfl) (by kernel_rfl) (by kernel_rfl) (fun _ _ _ h => h) hS (by rfl) ?_ ?_
        rotate_left
        · rintro W ⟨-, z1, z2, z3, z4, z5, z6, z7, z8⟩
          go_simp
          try with_reducible rfl
        try simp only [Act.put, List.setIfInBounds_toArray, List.set_cons_zero, List.set_cons_succ]
        refine wpAnyM_take (i := 1) (v := ?_) rfl (by kernel_rfl) (by kernel_rfl) (by kernel_rfl) (by kernel_rfl) (fun _ _ _ h => h) hS (by rfl) ?_ ?_
        rotate_left
        · rintro W ⟨-, z1, z2, z3, z4, z5, z6, z7, z8⟩
          go_simp
          try with_reducible rfl
        try simp only [Act.put, List.setIfInBounds_toArray, List.set_cons_zero, List.set_cons_succ]
        refine wpAnyM_take (i := 2) (v := ?_) rfl (by kernel_rfl) (by kernel_rfl) (by kernel_rfl) (by kernel_rfl) (fun _ _ _ h => h) hS (by rfl) ?_ ?_
        rotate_left
        · rintro W ⟨-, z1, z2, z3, z4, z5, z6, z7, z8⟩
          go_simp
          try with_reducible rfl
        try simp only [Act.put, List.setIfInBounds_toArray, List.set_cons_zero, List.set_cons_succ]
        refine wpAnyM_take (i := 3) (v := ?_) rfl (by kernel_rfl) (by kernel_rfl) (by kernel_rfl) (by kernel_rfl) (fun _ _ _ h => h) hS (by rfl) ?_ ?_
        rotate_left
        · rintro W ⟨-, z1, z2, z3, z4, z5, z6, z7, z8⟩
          go_simp
          try with_reducible rfl
        try simp only [Act.put, List.setIfInBounds_toArray, List.set_cons_zero, List.set_cons_succ]
        refine wpAnyM_take (i := 6) (v := ?_) rfl (by kernel_rfl) (by kernel_rfl) (by kernel_rfl) (by kernel_rfl) (fun _ _ _ h => h) hS (by rfl) ?_ ?_
        rotate_left
        · rintro W ⟨-, z1, z2, z3, z4, z5, z6, z7, z8⟩
          go_simp
          try with_reducible rfl
        try simp only [Act.put, List.setIfInBounds_toArray, List.set_cons_zero, List.set_cons_succ]
        refine wpAnyM_take (i := 7) (v := ?_) rfl (by kernel_rfl) (by kernel_rfl) (by kernel_rfl) (by kernel_rfl) (fun _ _ _ h => h) hS (by rfl) ?_ ?_
        rotate_left
        · rintro W ⟨-, z1, z2, z3, z4, z5, z6, z7, z8⟩
          go_simp
          try with_reducible rfl
        try simp only [Act.put, List.setIfInBounds_toArray, List.set_cons_zero, List.set_cons_succ]
        refine wpAnyM_take (i := 8) (v := ?_) rfl (by kernel_rfl) (by kernel_rfl) (by kernel_rfl) (by kernel_rfl) (fun _ _ _ h => h) hS (by rfl) ?_ ?_
        rotate_left
        · rintro W ⟨-, z1, z2, z3, z4, z5, z6, z7, z8⟩
          go_simp
          try with_reducible rfl
        try simp only [Act.put, List.setIfInBounds_toArray, List.set_cons_zero, List.set_cons_succ]
        refine wpAnyM_take (i := 9) (v := ?_) rfl (by kernel_rfl) (by kernel_rfl) (by kernel_rfl) (by kernel_rfl) (fun _ _ _ h => h) hS (by rfl) ?_ ?_
        rotate_left
        · rintro W ⟨-, z1, z2, z3, z4, z5, z6, z7, z8⟩
          go_simp
          try with_reducible rfl
        try simp only [Act.put, List.setIfInBounds_toArray, List.set_cons_zero, List.set_cons_succ]
        refine wpAnyM_one (i := 4) (by kernel_rfl) rfl (fun K hK => ?_)
        go_simp
        go_at_call 13
        refine (He.out _ hS.1).mono ?_
        rintro e w1 ⟨A1, n1, c1, rfl, h1, hb1⟩
        have hS1 := Sof.out w1 (hS.1.trans (hb1.mono hS.1.size))
        have r1 := Rd.of_own h1
        have cv1 := fun W (hb : Below w1.heap.size w1 W) => conv_bytes (P := Tryd.prog) (c := c1) 36 9 5 Tryd.underlying36 Tryd.underlying5 Tryd.underlying9 (r1.below hb)
        have CV1 := Lib.hid cv1
        have B1 := Lib.hid hb1
        clear hS h1 r1 cv1 hb1
        have hS := hS1
        clear hS1
        refine hK _ _ (fun _ => hS) ?_
        clear hK K
        try simp only [Act.put, List.setIfInBounds_toArray, List.set_cons_zero, List.set_cons_succ]
        refine wpAnyM_two (i := 5) (j := 10) (by kernel_rfl) rfl rfl (fun K hK => ?_) (fun K hK => ?_)
        · have cv := CV1.out _ (Below.refl _ _)
          go_simp
          refine hK _ _ (fun _ => hS) ?_
          clear hK K cv
          try simp only [Act.put, List.setIfInBounds_toArray, List.set_cons_zero, List.set_cons_succ]
          refine wpAnyM_one (i := 10) (by kernel_rfl) rfl (fun K hK => ?_)
          go_simp
          go_at_call 29
          refine (HeR.out _ hS.1).mono ?_
          rintro e w2 ⟨A2, n2, c2, rfl, h2, hb2⟩
          have hS2 := Sof.out w2 (hS.1.trans (hb2.mono hS.1.size))
          have r2 := Rd.of_own h2
          have cv2 := fun W (hb : Below w2.heap.size w2 W) => conv_bytes (P := Tryd.prog) (c := c2) 36 9 5 Tryd.underlying36 Tryd.underlying5 Tryd.underlying9 (r2.below hb)
          have CV2 := Lib.hid cv2
          have B2 := Lib.hid hb2
          clear hS h2 r2 cv2 hb2
          have hS := hS2
          clear hS2
          refine hK _ _ (fun _ => hS) ?_
          clear hK K
          try simp only [Act.put, List.setIfInBounds_toArray, List.set_cons_zero, List.set_cons_succ]
          refine wpAnyM_one (i := 11) (by kernel_rfl) rfl (fun K hK => ?_)
          have cv := CV2.out _ (Below.refl _ _)
          go_simp
          refine hK _ _ (fun _ => hS) ?_
          clear hK K cv
          try simp only [Act.put, List.setIfInBounds_toArray, List.set_cons_zero, List.set_cons_succ]
          refine wpAnyM_one (i := 12) (by kernel_rfl) rfl (fun K hK => ?_)
          go_simp
          refine hK _ _ (fun h => absurd rfl h) ?_
          clear hK K
          refine wpAnyM_done (by kernel_rfl) ?_ _
          go_wp2_with fail
          go_meet
          case rel => exact ⟨rfl, hS.1⟩
        · go_simp
          go_at_call 29
          refine (HeR.out _ hS.1).mono ?_
          rintro e w2 ⟨A2, n2, c2, rfl, h2, hb2⟩
          have hS2 := Sof.out w2 (hS.1.trans (hb2.mono hS.1.size))
          have r2 := Rd.of_own h2
          have cv2 := fun W (hb : Below w2.heap.size w2 W) => conv_bytes (P := Tryd.prog) (c := c2) 36 9 5 Tryd.underlying36 Tryd.underlying5 Tryd.underlying9 (r2.below hb)
          have CV2 := Lib.hid cv2
          have B2 := Lib.hid hb2
          clear hS h2 r2 cv2 hb2
          have hS := hS2
          clear hS2
          refine hK _ _ (fun _ => hS) ?_
          clear hK K
          try simp only [Act.put, List.setIfInBounds_toArray, List.set_cons_zero, List.set_cons_succ]
          refine wpAnyM_two (i := 5) (j := 11) (by kernel_rfl) rfl rfl (fun K hK => ?_) (fun K hK => ?_)
          · have cv := CV1.out _ B2.out
            go_simp
            refine hK _ _ (fun _ => hS) ?_
            clear hK K cv
            try simp only [Act.put, List.setIfInBounds_toArray, List.set_cons_zero, List.set_cons_succ]
            refine wpAnyM_one (i := 11) (by kernel_rfl) rfl (fun K hK => ?_)
            have cv := CV2.out _ (Below.refl _ _)
            go_simp
            refine hK _ _ (fun _ => hS) ?_
            clear hK K cv
            try simp only [Act.put, List.setIfInBounds_toArray, List.set_cons_zero, List.set_cons_succ]
            refine wpAnyM_one (i := 12) (by kernel_rfl) rfl (fun K hK => ?_)
            go_simp
            refine hK _ _ (fun h => absurd rfl h) ?_
            clear hK K
            refine wpAnyM_done (by kernel_rfl) ?_ _
            go_wp2_with fail
            go_meet
            case rel => exact ⟨rfl, hS.1⟩
          · have cv := CV2.out _ (Below.refl _ _)
            go_simp
            refine hK _ _ (fun _ => hS) ?_
            clear hK K cv
            try simp only [Act.put, List.setIfInBounds_toArray, List.set_cons_zero, List.set_cons_succ]
            refine wpAnyM_one (i := 5) (by kernel_rfl) rfl (fun K hK => ?_)
            have cv := CV1.out _ B2.out
            go_simp
            refine hK _ _ (fun _ => hS) ?_
            clear hK K cv
            try simp only [Act.put, List.setIfInBounds_toArray, List.set_cons_zero, List.set_cons_succ]
            refine wpAnyM_one (i := 12) (by kernel_rfl) rfl (fun K hK => ?_)
            go_simp
            refine hK _ _ (fun h => absurd rfl h) ?_
            clear hK K
            refine wpAnyM_done (by kernel_rfl) ?_ _
            go_wp2_with fail
            go_meet
            case rel => exact ⟨rfl, hS.1⟩
      case rest =>
        obtain ⟨rfl, hb5⟩ := hcut
        have hb6 := Hbe.out.trans (hb5.mono Hbe.out.size)
        have Hb6 := Lib.hid hb6
        clear hb5 hb6 s0
        go_wp2_with fail
        go_roundg (n - (k + 1))
        case measure => have := Hmu.out; omega
        case rel => exact ⟨k + 1, rfl, by omega, by go_num, Hb6.out⟩
    · have hdd : decide ((k : Int) < (n : Int)) = false := by simp; omega
      go_wp2_with fail
      go_ret
      exact ⟨rfl, hbe⟩
end Go.Proofs.YtefjejlpbfbpcaaDoor
