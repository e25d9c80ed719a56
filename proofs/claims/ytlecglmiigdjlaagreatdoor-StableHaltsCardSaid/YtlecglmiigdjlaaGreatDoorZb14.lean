/- Walks: the law's entries, sameLog. (Printed by mkents.py.)
   Walk: what is kept, as bytes: stable.Encode. (Printed by mkkenc.py.)
   Walk: slices.Clone of members (of c10's XDelC).
   Walk: (raft.Stored).own. -/
import Derived.Test.YtlecglmiigdjlaaGreatDoorZb9
import Derived.Test.YtlecglmiigdjlaaGreatDoorZb13
import Derived.Deep.LoopGhost
import Derived.Test.YtlecglmiigdjlaaGreatDoorZb12
import Derived.Test.YtlecglmiigdjlaaGreatDoorZb2
import Derived.Test.YtlecglmiigdjlaaGreatDoorZb8
namespace Go.Proofs.YtlecglmiigdjlaaGreatDoor
open Go.RowKit
set_option maxRecDepth 100000
set_option linter.unusedVariables false
set_option linter.unusedSimpArgs false
/-- An entry that can be written as bytes. -/
def Wt (x : Er) : Prop := 0 ≤ x.a ∧ x.a ≤ 9223372036854775807 ∧ 0 ≤ x.b ∧ x.b ≤ 9223372036854775807 ∧ 0 ≤ x.c ∧ x.c ≤ 9223372036854775807 ∧ x.n ≤ 1000000
def ecA (x : Er) : Value := .agg #[.int .i64 x.a, .int .i64 x.b, .int .i64 x.c, .slice x.A x.n x.m]
theorem enc_er (x : Er) (w : World) (h : Wt x) (hr : Rd w T 1 x.A x.n (bs x.d)) (htab : TabW w) : Calls Tryz.prog 100 #[ecA x] w (BytesPost w (encE (en x))) := by
  obtain ⟨a, b, c, A, n, m, d⟩ := x
  obtain ⟨h1, h2, h3, h4, h5, h6, h7⟩ := h
  dsimp only at h1 h2 h3 h4 h5 h6 h7 hr
  obtain ⟨a', rfl⟩ : ∃ q : Nat, a = q := ⟨a.toNat, by omega⟩
  obtain ⟨b', rfl⟩ : ∃ q : Nat, b = q := ⟨b.toNat, by omega⟩
  obtain ⟨c', rfl⟩ : ∃ q : Nat, c = q := ⟨c.toNat, by omega⟩
  exact encode_nat a' b' c' A n m d w (by omega) (by omega) (by omega) hr h7 htab
theorem encR_er (x : Er) (w : World) (h : Wt x) (hr : Rd w T 1 x.A x.n (bs x.d)) : Calls Tryz.prog 42 #[ecA x] w (BytesPost w (encE (en x))) := by
  obtain ⟨a, b, c, A, n, m, d⟩ := x
  obtain ⟨h1, h2, h3, h4, h5, h6, h7⟩ := h
  dsimp only at h1 h2 h3 h4 h5 h6 h7 hr
  obtain ⟨a', rfl⟩ : ∃ q : Nat, a = q := ⟨a.toNat, by omega⟩
  obtain ⟨b', rfl⟩ : ∃ q : Nat, b = q := ⟨b.toNat, by omega⟩
  obtain ⟨c', rfl⟩ : ∃ q : Nat, c = q := ⟨c.toNat, by omega⟩
  exact encodeR_nat a' b' c' A n m d w (by omega) (by omega) (by omega) hr h7
theorem entries_no (A : Option Addr) (n c : Nat) (B : Option Addr) (m d : Nat) (w : World) (h : n ≠ m) : Calls Tryz.prog 81 #[.slice A n c, .slice B m d] w (BoolPost w false) := by
  have hd : ((n : Int) != (m : Int)) = true := by simp; omega
  clear h
  go_enter Tryz.func81, Tryz.ntmps81
  go_wp2_with fail
  go_ret
  exact ⟨rfl, Below.refl _ _⟩
set_option maxHeartbeats 6400000 in
theorem entries_yes (A : Option Addr) (n c : Nat) (L : List Er) (B : Option Addr) (d : Nat) (L' : List Er) (w : World) {ok ok' : Nat → Prop} (hr : Rd w ok 4 A n (flat ecell L)) (hr' : Rd w ok' 4 B n (flat ecell L')) (hd : ∀ x ∈ L, Rd w T 1 x.A x.n (bs x.d)) (hd' : ∀ x ∈ L', Rd w T 1 x.A x.n (bs x.d)) (hs : L'.map en = L.map en) (hw : ∀ x ∈ L, Wt x) (hw' : ∀ x ∈ L', Wt x) (hn : n ≤ 1000000) (htab : TabW w) :
    Calls Tryz.prog 81 #[.slice A n c, .slice B n d] w (BoolPost w true) := by
  have hnn : ((n : Int) != (n : Int)) = false := by simp
  have henc := fun x (hx : x ∈ L) W (hb : Below w.heap.size w W) => enc_er x W (hw x hx) ((hd x hx).below hb) (htab.below hb (Nat.le_refl _))
  have hencR := fun x (hx : x ∈ L') W (hb : Below w.heap.size w W) => encR_er x W (hw' x hx) ((hd' x hx).below hb)
  unfold ecA at henc hencR
  have Henc := Lib.hid henc
  have HencR := Lib.hid hencR
  have Hr := Lib.hid hr
  have Hr' := Lib.hid hr'
  have Hs := Lib.hid hs
  clear henc hencR hr hr' hd hd' hs hw hw' htab
  go_enter Tryz.func81, Tryz.ntmps81
  go_wp2_with fail
  go_loopg [5] n (fun mu s5 wr => ∃ k, mu = n - k ∧ k ≤ n ∧ s5 = .int .i64 (k : Nat) ∧ Below w.heap.size w wr)
  case atStart => exact ⟨0, by omega, by omega, rfl, Below.refl _ _⟩
  case round =>
    obtain ⟨k, hmu, hk, rfl, hbe⟩ := hrel
    have Hmu := Lib.hid hmu
    have Hbe := Lib.hid hbe
    clear hmu
    obtain ⟨wq, rfl⟩ : ∃ wq, wq = wr := ⟨_, rfl⟩
    by_cases hlt : k < n
    · obtain ⟨xb, xo, x, hxA, -, -, hx, x0, x1, x2, x3⟩ := er_cells (Hr.out.below hbe) hlt
      obtain ⟨yb, yo, y, hyA, -, -, hy, y0, y1, y2, y3⟩ := er_cells (Hr'.out.below hbe) hlt
      subst hxA hyA
      have hpe : en y = en x := by
        have h1 := congrArg (fun M => M[k]?) Hs.out
        simp only [List.getElem?_map, hx, hy, Option.map_some, Option.some.injEq] at h1
        exact h1
      have hkI : (k : Int) < n := by omega
      have hk0 : (0 : Int) ≤ k := by omega
      have sof : ∀ W, Below wq.heap.size wq W → (Below wq.heap.size wq W ∧ W.cell? ⟨xb, xo + k * 4, none⟩ = some (.int .i64 x.a) ∧ W.cell? ⟨xb, xo + k * 4 + 1, none⟩ = some (.int .i64 x.b) ∧ W.cell? ⟨xb, xo + k * 4 + 2, none⟩ = some (.int .i64 x.c) ∧ W.cell? ⟨xb, xo + k * 4 + 3, none⟩ = some (.slice x.A x.n x.m) ∧ W.cell? ⟨yb, yo + k * 4, none⟩ = some (.int .i64 y.a) ∧ W.cell? ⟨yb, yo + k * 4 + 1, none⟩ = some (.int .i64 y.b) ∧ W.cell? ⟨yb, yo + k * 4 + 2, none⟩ = some (.int .i64 y.c) ∧ W.cell? ⟨yb, yo + k * 4 + 3, none⟩ = some (.slice y.A y.n y.m)) :=
        fun W h => ⟨h, (h.cell (p := ⟨xb, _, none⟩) (World.block_lt_of_cell? wq _ x0)).trans x0, (h.cell (p := ⟨xb, _, none⟩) (World.block_lt_of_cell? wq _ x1)).trans x1, (h.cell (p := ⟨xb, _, none⟩) (World.block_lt_of_cell? wq _ x2)).trans x2, (h.cell (p := ⟨xb, _, none⟩) (World.block_lt_of_cell? wq _ x3)).trans x3, (h.cell (p := ⟨yb, _, none⟩) (World.block_lt_of_cell? wq _ y0)).trans y0, (h.cell (p := ⟨yb, _, none⟩) (World.block_lt_of_cell? wq _ y1)).trans y1, (h.cell (p := ⟨yb, _, none⟩) (World.block_lt_of_cell? wq _ y2)).trans y2, (h.cell (p := ⟨yb, _, none⟩) (World.block_lt_of_cell? wq _ y3)).trans y3⟩
      have he := fun W (hb : Below wq.heap.size wq W) => Henc.out x (List.mem_of_getElem? hx) W (hbe.trans (hb.mono hbe.size))
      have heR := fun W (hb : Below wq.heap.size wq W) => HencR.out y (List.mem_of_getElem? hy) W (hbe.trans (hb.mono hbe.size))
      rw [hpe] at heR
      have s0 := sof _ (Below.refl _ _).drew
      have Sof := Lib.hid sof
      have He := Lib.hid he
      have HeR := Lib.hid heR
      clear hpe hx hy sof he heR hbe x0 x1 x2 x3 y0 y1 y2 y3
      generalize encE (en x) = E at He HeR
      go_upto_region 6 with (fail)
      go_cut [29] (fun s29 W => s29 = .bool false ∧ Below wq.heap.size wq W)
      case first =>
        refine wp_region_M 12 (fun W => Below wq.heap.size wq W ∧ W.cell? ⟨xb, xo + k * 4, none⟩ = some (.int .i64 x.a) ∧ W.cell? ⟨xb, xo + k * 4 + 1, none⟩ = some (.int .i64 x.b) ∧ W.cell? ⟨xb, xo + k * 4 + 2, none⟩ = some (.int .i64 x.c) ∧ W.cell? ⟨xb, xo + k * 4 + 3, none⟩ = some (.slice x.A x.n x.m) ∧ W.cell? ⟨yb, yo + k * 4, none⟩ = some (.int .i64 y.a) ∧ W.cell? ⟨yb, yo + k * 4 + 1, none⟩ = some (.int .i64 y.b) ∧ W.cell? ⟨yb, yo + k * 4 + 2, none⟩ = some (.int .i64 y.c) ∧ W.cell? ⟨yb, yo + k * 4 + 3, none⟩ = some (.slice y.A y.n y.m)) (by kernel_rfl) s0 (fun hS => ?_)
        refine wpAnyM_take (i := 0) (v := ?_) rfl (by kernel_rfl) (by kernel_rfl) (by kernel_rfl) (by kernel_rfl) (fun _ _ _ h => h) hS (by rfl) ?_ ?_
        rotate_left
        · rintro W ⟨-, z1, z2, z3, z4, z5, z6, z7, z8⟩
          go_simp
          try with_reducible rfl
        try simp only [Act.put, List.setIfInBounds_toArray, List.set_cons_zero, List.set_cons_succ]
        refine wpAnyM_take (i := 1) (v := ?_) rfl (by kernel_rfl) (by kernel_rfl) (by kernel_rfl) (by kernel_rfl) (fun _ _ _ h => h) hS (by rfl) ?_ ?_
        rotate_left
        · rintro W ⟨-, z1, z2, z3, z4, z5, z6, z7, z8⟩
          go_simp
          try with_reducible rfl
        try simp only [Act.put, List.setIfInBounds_toArray, List.set_cons_zero, List.set_cons_succ]
        refine wpAnyM_take (i := 2) (v := ?_) rfl (by kernel_rfl) (by kernel_rfl) (by kernel_rfl) (by kernel_rfl) (fun _ _ _ h => h) hS (by rfl) ?_ ?_
        rotate_left
        · rintro W ⟨-, z1, z2, z3, z4, z5, z6, z7, z8⟩
          go_simp
          try with_reducible rfl
        try simp only [Act.put, List.setIfInBounds_toArray, List.set_cons_zero, List.set_cons_succ]
        refine wpAnyM_take (i := 3) (v := ?_) rfl (by kernel_rfl) (by kernel_rfl) (by kernel_rfl) (by kernel_rfl) (fun _ _ _ h => h) hS (by rfl) ?_ ?_
        rotate_left
        · rintro W ⟨-, z1, z2, z3, z4, z5, z6, z7, z8⟩
          go_simp
          try with_reducible rfl
        try simp only [Act.put, List.setIfInBounds_toArray, List.set_cons_zero, List.set_cons_succ]
        refine wpAnyM_take (i := 6) (v := ?_) rfl (by kernel_rfl) (by kernel_rfl) (by kernel_rfl) (by kernel_rfl) (fun _ _ _ h => h) hS (by rfl) ?_ ?_
        rotate_left
        · rintro W ⟨-, z1, z2, z3, z4, z5, z6, z7, z8⟩
          go_simp
          try with_reducible rfl
        try simp only [Act.put, List.setIfInBounds_toArray, List.set_cons_zero, List.set_cons_succ]
        refine wpAnyM_take (i := 7) (v := ?_) rfl (by kernel_rfl) (by kernel_rfl) (by kernel_rfl) (by kernel_rfl) (fun _ _ _ h => h) hS (by rfl) ?_ ?_
        rotate_left
        · rintro W ⟨-, z1, z2, z3, z4, z5, z6, z7, z8⟩
          go_simp
          try with_reducible rfl
        try simp only [Act.put, List.setIfInBounds_toArray, List.set_cons_zero, List.set_cons_succ]
        refine wpAnyM_take (i := 8) (v := ?_) rfl (by kernel_rfl) (by kernel_rfl) (by kernel_rfl) (by kernel_rfl) (fun _ _ _ h => h) hS (by rfl) ?_ ?_
        rotate_left
        · rintro W ⟨-, z1, z2, z3, z4, z5, z6, z7, z8⟩
          go_simp
          try with_reducible rfl
        try simp only [Act.put, List.setIfInBounds_toArray, List.set_cons_zero, List.set_cons_succ]
        refine wpAnyM_take (i := 9) (v := ?_) rfl (by kernel_rfl) (by kernel_rfl) (by kernel_rfl) (by kernel_rfl) (fun _ _ _ h => h) hS (by rfl) ?_ ?_
        rotate_left
        · rintro W ⟨-, z1, z2, z3, z4, z5, z6, z7, z8⟩
          go_simp
          try with_reducible rfl
        try simp only [Act.put, List.setIfInBounds_toArray, List.set_cons_zero, List.set_cons_succ]
        refine wpAnyM_one (i := 4) (by kernel_rfl) rfl (fun K hK => ?_)
        go_simp
        go_at_call 100
        refine (He.out _ hS.1).mono ?_
        rintro e w1 ⟨A1, n1, c1, rfl, h1, hb1⟩
        have hS1 := Sof.out w1 (hS.1.trans (hb1.mono hS.1.size))
        have r1 := Rd.of_own h1
        have cv1 := fun W (hb : Below w1.heap.size w1 W) => conv_bytes (P := Tryz.prog) (c := c1) 33 9 5 Tryz.underlying33 Tryz.underlying5 Tryz.underlying9 (r1.below hb)
        have CV1 := Lib.hid cv1
        have B1 := Lib.hid hb1
        clear hS h1 r1 cv1 hb1
        have hS := hS1
        clear hS1
        refine hK _ _ (fun _ => hS) ?_
        clear hK K
        try simp only [Act.put, List.setIfInBounds_toArray, List.set_cons_zero, List.set_cons_succ]
        refine wpAnyM_two (i := 5) (j := 10) (by kernel_rfl) rfl rfl (fun K hK => ?_) (fun K hK => ?_)
        · have cv := CV1.out _ (Below.refl _ _)
          go_simp
          refine hK _ _ (fun _ => hS) ?_
          clear hK K cv
          try simp only [Act.put, List.setIfInBounds_toArray, List.set_cons_zero, List.set_cons_succ]
          refine wpAnyM_one (i := 10) (by kernel_rfl) rfl (fun K hK => ?_)
          go_simp
          go_at_call 42
          refine (HeR.out _ hS.1).mono ?_
          rintro e w2 ⟨A2, n2, c2, rfl, h2, hb2⟩
          have hS2 := Sof.out w2 (hS.1.trans (hb2.mono hS.1.size))
          have r2 := Rd.of_own h2
          have cv2 := fun W (hb : Below w2.heap.size w2 W) => conv_bytes (P := Tryz.prog) (c := c2) 33 9 5 Tryz.underlying33 Tryz.underlying5 Tryz.underlying9 (r2.below hb)
          have CV2 := Lib.hid cv2
          have B2 := Lib.hid hb2
          clear hS h2 r2 cv2 hb2
          have hS := hS2
          clear hS2
          refine hK _ _ (fun _ => hS) ?_
          clear hK K
          try simp only [Act.put, List.setIfInBounds_toArray, List.set_cons_zero, List.set_cons_succ]
          refine wpAnyM_one (i := 11) (by kernel_rfl) rfl (fun K hK => ?_)
          have cv := CV2.out _ (Below.refl _ _)
          go_simp
          refine hK _ _ (fun _ => hS) ?_
          clear hK K cv
          try simp only [Act.put, List.setIfInBounds_toArray, List.set_cons_zero, List.set_cons_succ]
          refine wpAnyM_one (i := 12) (by kernel_rfl) rfl (fun K hK => ?_)
          go_simp
          refine hK _ _ (fun h => absurd rfl h) ?_
          clear hK K
          refine wpAnyM_done (by kernel_rfl) ?_ _
          go_wp2_with fail
          go_meet
          case rel => exact ⟨rfl, hS.1⟩
        · go_simp
          go_at_call 42
          refine (HeR.out _ hS.1).mono ?_
          rintro e w2 ⟨A2, n2, c2, rfl, h2, hb2⟩
          have hS2 := Sof.out w2 (hS.1.trans (hb2.mono hS.1.size))
          have r2 := Rd.of_own h2
          have cv2 := fun W (hb : Below w2.heap.size w2 W) => conv_bytes (P := Tryz.prog) (c := c2) 33 9 5 Tryz.underlying33 Tryz.underlying5 Tryz.underlying9 (r2.below hb)
          have CV2 := Lib.hid cv2
          have B2 := Lib.hid hb2
          clear hS h2 r2 cv2 hb2
          have hS := hS2
          clear hS2
          refine hK _ _ (fun _ => hS) ?_
          clear hK K
          try simp only [Act.put, List.setIfInBounds_toArray, List.set_cons_zero, List.set_cons_succ]
          refine wpAnyM_two (i := 5) (j := 11) (by kernel_rfl) rfl rfl (fun K hK => ?_) (fun K hK => ?_)
          · have cv := CV1.out _ B2.out
            go_simp
            refine hK _ _ (fun _ => hS) ?_
            clear hK K cv
            try simp only [Act.put, List.setIfInBounds_toArray, List.set_cons_zero, List.set_cons_succ]
            refine wpAnyM_one (i := 11) (by kernel_rfl) rfl (fun K hK => ?_)
            have cv := CV2.out _ (Below.refl _ _)
            go_simp
            refine hK _ _ (fun _ => hS) ?_
            clear hK K cv
            try simp only [Act.put, List.setIfInBounds_toArray, List.set_cons_zero, List.set_cons_succ]
            refine wpAnyM_one (i := 12) (by kernel_rfl) rfl (fun K hK => ?_)
            go_simp
            refine hK _ _ (fun h => absurd rfl h) ?_
            clear hK K
            refine wpAnyM_done (by kernel_rfl) ?_ _
            go_wp2_with fail
            go_meet
            case rel => exact ⟨rfl, hS.1⟩
          · have cv := CV2.out _ (Below.refl _ _)
            go_simp
            refine hK _ _ (fun _ => hS) ?_
            clear hK K cv
            try simp only [Act.put, List.setIfInBounds_toArray, List.set_cons_zero, List.set_cons_succ]
            refine wpAnyM_one (i := 5) (by kernel_rfl) rfl (fun K hK => ?_)
            have cv := CV1.out _ B2.out
            go_simp
            refine hK _ _ (fun _ => hS) ?_
            clear hK K cv
            try simp only [Act.put, List.setIfInBounds_toArray, List.set_cons_zero, List.set_cons_succ]
            refine wpAnyM_one (i := 12) (by kernel_rfl) rfl (fun K hK => ?_)
            go_simp
            refine hK _ _ (fun h => absurd rfl h) ?_
            clear hK K
            refine wpAnyM_done (by kernel_rfl) ?_ _
            go_wp2_with fail
            go_meet
            case rel => exact ⟨rfl, hS.1⟩
      case rest =>
        obtain ⟨rfl, hb5⟩ := hcut
        have hb6 := Hbe.out.trans (hb5.mono Hbe.out.size)
        have Hb6 := Lib.hid hb6
        clear hb5 hb6 s0
        go_wp2_with fail
        go_roundg (n - (k + 1))
        case measure => have := Hmu.out; omega
        case rel => exact ⟨k + 1, rfl, by omega, by go_num, Hb6.out⟩
    · have hdd : decide ((k : Int) < (n : Int)) = false := by simp; omega
      go_wp2_with fail
      go_ret
      exact ⟨rfl, hbe⟩
end Go.Proofs.YtlecglmiigdjlaaGreatDoor
namespace Go.Proofs.YtlecglmiigdjlaaGreatDoor
open Go.RowKit
set_option maxRecDepth 100000
set_option linter.unusedVariables false
set_option linter.unusedSimpArgs false
theorem entF_snoc (l : List En) (e : En) : entF (l ++ [e]) = entF l ++ bytesL (encI e) := by simp [entF]
theorem entF_le (k : Nat) : ∀ (l : List En), (∀ e ∈ l, e.d.length ≤ k) → k ≤ 1000000 → (entF l).length ≤ (k + 110) * l.length
  | [], _, _ => by simp [entF]
  | e :: l, h, hk => by
    have h1 := entF_le k l (fun x hx => h x (List.mem_cons_of_mem _ hx)) hk
    have h2 := h e (by simp)
    have h3 := encI_len e (by omega)
    have h4 := bytesL_len (encI e) (by omega)
    have h5 : entF (e :: l) = bytesL (encI e) ++ entF l := by simp [entF]
    rw [h5, List.length_append, List.length_cons, Nat.mul_add]
    omega
theorem stL_pre (n : Int) (s : St) : stL n s = confF [n, s.tm, s.vt, s.b, s.t] ++ bytesL (confL s.cf) ++ bytesL s.sn ++ uintL s.l.length ++ entF s.l := by
  unfold stL confF
  simp
theorem idx5_0 (a b c d e : Int) (W : World) : (Instr.index 195 (.agg #[.int .i64 a, .int .i64 b, .int .i64 c, .int .i64 d, .int .i64 e]) (.int .i64 0)).run Tryz.prog W = .ok (.int .i64 a) W := by kernel_rfl
theorem idx5_1 (a b c d e : Int) (W : World) : (Instr.index 195 (.agg #[.int .i64 a, .int .i64 b, .int .i64 c, .int .i64 d, .int .i64 e]) (.int .i64 1)).run Tryz.prog W = .ok (.int .i64 b) W := by kernel_rfl
theorem idx5_2 (a b c d e : Int) (W : World) : (Instr.index 195 (.agg #[.int .i64 a, .int .i64 b, .int .i64 c, .int .i64 d, .int .i64 e]) (.int .i64 2)).run Tryz.prog W = .ok (.int .i64 c) W := by kernel_rfl
theorem idx5_3 (a b c d e : Int) (W : World) : (Instr.index 195 (.agg #[.int .i64 a, .int .i64 b, .int .i64 c, .int .i64 d, .int .i64 e]) (.int .i64 3)).run Tryz.prog W = .ok (.int .i64 d) W := by kernel_rfl
theorem idx5_4 (a b c d e : Int) (W : World) : (Instr.index 195 (.agg #[.int .i64 a, .int .i64 b, .int .i64 c, .int .i64 d, .int .i64 e]) (.int .i64 4)).run Tryz.prog W = .ok (.int .i64 e) W := by kernel_rfl
attribute [local go_sem] idx5_0 idx5_1 idx5_2 idx5_3 idx5_4
set_option maxHeartbeats 6400000 in
theorem kenc_any (n : Int) (s : Sv) (w : World) {ok : Nat → Prop} (h : s.At w ok) (hf : s.Fit) (hm : s.st.may = true) (htab : TabW w) :
    Calls Tryz.prog 68 #[.int .i64 n, s.val] w (LayR w (stL n s.st)) := by
  obtain ⟨W0, hW0⟩ : ∃ W0, W0 = w.alloc (.cells s.cells 35) := ⟨_, rfl⟩
  have b0 : Bx W0 w.heap.size s.cells := by subst hW0; exact Bx.new _ _ _ rfl
  have hbe : Below w.heap.size w W0 := by subst hW0; exact (Below.refl _ _).alloc (Nat.le_refl _) _
  have hz0 : W0.heap.size = w.heap.size + 1 := by subst hW0; simp
  have t0 : TabW W0 := htab.below hbe (Nat.le_refl _)
  have a0 := h.lt.below hbe
  obtain ⟨m1, m2, m3, m4, m5, m6, m7, m8, m9⟩ := St.may_iff hm
  have hl : s.L.length = s.n := h.l.flen ecell_len (by omega)
  have hnl : s.n ≤ 4096 := by have : (s.L.map en).length ≤ 4096 := m4; rw [List.length_map] at this; omega
  have hsn : s.sn.length = s.ns := h.sn.blen
  have hwt : ∀ x ∈ s.L, Wt x := fun x hx => by
    have h1 := m5 (en x) (List.mem_map_of_mem hx)
    have h2 := hf.w x hx
    unfold EnOk at h1
    unfold Wt
    simp only [en] at h1
    refine ⟨by omega, by omega, by omega, by omega, by omega, by omega, h2.2⟩
  have hcl : (confL s.cf).length ≤ 176 := by
    have h1 := confF_le s.cf
    have h2 : s.cf.length ≤ 7 := (cmay_small m2).2.1
    have h3 := uintL_le s.cf.length (by omega)
    unfold confL
    rw [List.length_append]
    omega
  have hcl' := bytesL_len (confL s.cf) (by omega)
  have hpl : (confF [n, s.tm, s.vt, s.b, s.t]).length ≤ 110 := by have := confF_le [n, s.tm, s.vt, s.b, s.t]; simpa using this
  have hns := hf.z.2.2
  have hsl : (bytesL s.sn).length ≤ s.ns + 22 := by have := bytesL_len s.sn (by omega); omega
  have hul := uintL_le s.n (by omega)
  have hpre : ∀ j, (confF ([n, s.tm, s.vt, s.b, s.t].take j)).length ≤ 110 := fun j => by
    have := confF_le ([n, s.tm, s.vt, s.b, s.t].take j)
    have h2 : ([n, s.tm, s.vt, s.b, s.t].take j).length ≤ 5 := by rw [List.length_take]; simp; omega
    omega
  have hen : ∀ j, (entF ((s.L.map en).take j)).length ≤ 17229000 := fun j => by
    have h1 := entF_le 4096 ((s.L.map en).take j) (fun e he => (m5 e (List.mem_of_mem_take he)).2.2.2.2.2.2) (by omega)
    have h2 : ((s.L.map en).take j).length ≤ 4096 := by rw [List.length_take, List.length_map]; omega
    have h3 := Nat.mul_le_mul_left (4096 + 110) h2
    omega
  have pre := stL_pre n s.st
  have e1 : s.st.l = s.L.map en := rfl
  have e2 : s.st.cf = s.cf := rfl
  have e3 : s.st.sn = s.sn := rfl
  have e4 : s.st.tm = s.tm := rfl
  have e5 : s.st.vt = s.vt := rfl
  have e6 : s.st.b = s.b := rfl
  have e7 : s.st.t = s.t := rfl
  rw [e1, e2, e3, e4, e5, e6, e7, List.length_map, hl] at pre
  rw [pre]
  obtain ⟨M1, hM1⟩ : ∃ M1, M1 = confF [n, s.tm, s.vt, s.b, s.t] ++ bytesL (confL s.cf) ++ bytesL s.sn ++ uintL s.n := ⟨_, rfl⟩
  rw [← hM1]
  have hM1l : M1.length ≤ 300000000 := by
    rw [hM1]
    simp only [List.length_append]
    omega
  have F : ∀ W, Below W0.heap.size W0 W → W.cell? ⟨w.heap.size, 0, none⟩ = some (.int .i64 s.tm) ∧ W.cell? ⟨w.heap.size, 1, none⟩ = some (.int .i64 s.vt) ∧ W.cell? ⟨w.heap.size, 2, none⟩ = some (.int .i64 s.b) ∧ W.cell? ⟨w.heap.size, 3, none⟩ = some (.int .i64 s.t) ∧ W.cell? ⟨w.heap.size, 4, none⟩ = some (.slice s.A s.n s.c) ∧ W.cell? ⟨w.heap.size, 5, none⟩ = some (.slice s.C s.nc s.cc) ∧ W.cell? ⟨w.heap.size, 6, none⟩ = some (.slice s.S s.ns s.cs) := fun W hb => Sv.c7 (b0.below hb)
  have wn : IntKind.u64.wrap (s.n : Int) = (s.n : Int) := by rw [IntKind.wrap_u64]; omega
  have u0 := uN_eq n
  have u1 := uN_eq s.tm
  have u2 := uN_eq s.vt
  have u3 := uN_eq s.b
  have u4 := uN_eq s.t
  have FF := Lib.hid F
  have HW := Lib.hid hW0
  have B := Lib.hid (And.intro hbe hz0)
  have T0 := Lib.hid t0
  have A0 := Lib.hid a0
  have Hwt := Lib.hid hwt
  have Hpre := Lib.hid hpre
  have Hen := Lib.hid hen
  have Hl := Lib.hid hl
  have Lens := Lib.hid (And.intro hcl (And.intro hcl' (And.intro hpl (And.intro hns (And.intro hsl (And.intro hul (And.intro hM1l hM1)))))))
  have Ok := Lib.hid m5
  have hn1 := hf.z.1
  have hnlI : (s.n : Int) ≤ 4096 := by omega
  clear F hW0 hbe hz0 t0 a0 hwt hpre hen hl hcl hcl' hpl hsl hul pre e1 e2 e3 e4 e5 e6 e7 h hm htab b0 m1 m2 m3 m4 m5 m6 m7 m8 m9 hM1l hM1 hns hsn
  unfold Sv.val stA
  go_enter Tryz.func68, Tryz.ntmps68
  go_upto_region 1 with (fail)
  have HW' := HW.out
  unfold Sv.cells at HW'
  rw [← HW']
  clear HW'
  go_wp2_with fail
  refine (new_i W0).mono ?_
  rintro e w1 ⟨rfl, i1⟩
  obtain ⟨c0, c1, c2, c3, c4, c5, c6⟩ := FF.out w1 i1.be
  have I1 := Lib.hid i1
  clear i1
  go_wp2_with fail
  go_loopg [7, 23] 5 (fun m s7 s23 wr => ∃ j : Nat, m = 5 - j ∧ j ≤ 5 ∧ s23 = .int .i64 j ∧ EncI W0 wr W0.heap.size (confF ([n, s.tm, s.vt, s.b, s.t].take j)))
  case atStart => exact ⟨0, by omega, by omega, rfl, I1.out⟩
  case round =>
    clear c0 c1 c2 c3 c4 c5 c6
    obtain ⟨j, hm, hj, rfl, hI⟩ := hrel
    have Hm := Lib.hid hm
    have HI := Lib.hid hI
    clear hm hI
    by_cases hlt : j < 5
    · have hltI : (j : Int) < 5 := by omega
      have hlen := Hpre.out j
      have hcs : j = 0 ∨ j = 1 ∨ j = 2 ∨ j = 3 ∨ j = 4 := by omega
      have Hlen := Lib.hid hlen
      clear hlen
      rcases hcs with rfl | rfl | rfl | rfl | rfl
      · go_wp2_with fail
        refine (uint_i (uN _) (uN_lt _) HI.out (by have := Hlen.out; omega) T0.out).mono ?_
        rintro e w3 ⟨rfl, i3⟩
        have I3 := Lib.hid i3
        clear i3
        go_wp2_with fail
        go_roundg (5 - (0 + 1))
        case measure => have := Hm.out; omega
        case rel => exact ⟨0 + 1, rfl, by omega, by go_num, by simpa [confF] using I3.out⟩
      · go_wp2_with fail
        refine (uint_i (uN _) (uN_lt _) HI.out (by have := Hlen.out; omega) T0.out).mono ?_
        rintro e w3 ⟨rfl, i3⟩
        have I3 := Lib.hid i3
        clear i3
        go_wp2_with fail
        go_roundg (5 - (1 + 1))
        case measure => have := Hm.out; omega
        case rel => exact ⟨1 + 1, rfl, by omega, by go_num, by simpa [confF] using I3.out⟩
      · go_wp2_with fail
        refine (uint_i (uN _) (uN_lt _) HI.out (by have := Hlen.out; omega) T0.out).mono ?_
        rintro e w3 ⟨rfl, i3⟩
        have I3 := Lib.hid i3
        clear i3
        go_wp2_with fail
        go_roundg (5 - (2 + 1))
        case measure => have := Hm.out; omega
        case rel => exact ⟨2 + 1, rfl, by omega, by go_num, by simpa [confF] using I3.out⟩
      · go_wp2_with fail
        refine (uint_i (uN _) (uN_lt _) HI.out (by have := Hlen.out; omega) T0.out).mono ?_
        rintro e w3 ⟨rfl, i3⟩
        have I3 := Lib.hid i3
        clear i3
        go_wp2_with fail
        go_roundg (5 - (3 + 1))
        case measure => have := Hm.out; omega
        case rel => exact ⟨3 + 1, rfl, by omega, by go_num, by simpa [confF] using I3.out⟩
      · go_wp2_with fail
        refine (uint_i (uN _) (uN_lt _) HI.out (by have := Hlen.out; omega) T0.out).mono ?_
        rintro e w3 ⟨rfl, i3⟩
        have I3 := Lib.hid i3
        clear i3
        go_wp2_with fail
        go_roundg (5 - (4 + 1))
        case measure => have := Hm.out; omega
        case rel => exact ⟨4 + 1, rfl, by omega, by go_num, by simpa [confF] using I3.out⟩
    · obtain rfl : j = 5 := by omega
      have i2 : EncI W0 wr W0.heap.size (confF [n, s.tm, s.vt, s.b, s.t]) := HI.out
      have I2 := Lib.hid i2
      clear i2 hlt
      obtain ⟨c0, c1, c2, c3, c4, c5, c6⟩ := FF.out wr I2.out.be
      go_upto_region 7 with (fail)
      refine wp_region_S 13 (fun W => Below W0.heap.size W0 W) (.take 0 (.take 1 (.take 2 (.take 5 (.take 6 (.take 8 (.take 9 (.take 10 (.take 11 (.take 12 (.one 3 (.one 4 (.one 7 (.one 13 (.nil))))))))))))))) (by kernel_rfl) I2.out.be.drew (fun _ _ _ _ h => h) (fun hS => ?_)
      repeat (first
        | (refine wpS_take (v := ?_) rfl rfl (by rfl) ?_ ?_; rotate_left; (intro W hW; have hf := FF.out W hW; go_split_ands; go_simp; try with_reducible rfl); try simp only [Act.put, List.setIfInBounds_toArray, List.set_cons_zero, List.set_cons_succ])
        | (refine wpS_skip rfl rfl (by rfl) ?_; try simp only [Act.put, List.setIfInBounds_toArray, List.set_cons_zero, List.set_cons_succ]))
      refine wpS_one rfl (by rfl) (fun K hK => ?_)
      go_simp
      go_at_call 99
      refine (cenc_any s.C s.nc s.cc s.cf wr.drew (((A0.out.cf.mono fun b hb => hb.2).below I2.out.be).drew) (by have := hf.z.2.1; omega) (T0.out.below I2.out.be.drew (Nat.le_refl _))).mono ?_
      rintro e w4 ⟨A4, n4, d4, rfl, o4, hb4⟩
      have hb4' : Below wr.heap.size wr w4 := (Below.refl _ _).drew.trans hb4
      have i4 := I2.out.below hb4'
      have r4 := (Rd.of_own o4)
      have hn4 := r4.blen
      have K4 := Lib.hid (And.intro hb4' (And.intro r4 hn4))
      have hS4 := i4.be
      clear hb4 hb4' r4 hn4 i4 o4
      refine hK (fun W => Below W0.heap.size W0 W) _ _ (fun _ h => h) hS4 ?_
      clear hK K
      try simp only [Act.put, List.setIfInBounds_toArray, List.set_cons_zero, List.set_cons_succ]
      refine wpS_one rfl (by rfl) (fun K hK => ?_)
      go_simp
      go_at_call 98
      refine (bytes_i (W := wr) (W' := w4) A4 n4 d4 (confL s.cf) I2.out K4.out.1 (by have := Lens.out.2.2.1; omega) T0.out K4.out.2.1 (by have := K4.out.2.2; have := Lens.out.1; omega)).mono ?_
      rintro e w5 ⟨rfl, i5⟩
      have I5 := Lib.hid i5
      have hS5 := i5.be
      clear i5
      refine hK (fun W => Below W0.heap.size W0 W) _ _ (fun _ h => h) hS5 ?_
      clear hK K
      try simp only [Act.put, List.setIfInBounds_toArray, List.set_cons_zero, List.set_cons_succ]
      refine wpS_one rfl (by rfl) (fun K hK => ?_)
      go_simp
      go_at_call 98
      refine (bytes_o s.S s.ns s.cs s.sn I5.out (by have := Lens.out; simp only [List.length_append]; omega) T0.out ((A0.out.sn.mono fun b hb => (by have := B.out.2; have := hb.2; omega : b < W0.heap.size)).below I5.out.be) (by have := Lens.out; omega)).mono ?_
      rintro e w6 ⟨rfl, i6⟩
      have I6 := Lib.hid i6
      have hS6 := i6.be
      clear i6
      refine hK (fun W => Below W0.heap.size W0 W) _ _ (fun _ h => h) hS6 ?_
      clear hK K
      try simp only [Act.put, List.setIfInBounds_toArray, List.set_cons_zero, List.set_cons_succ]
      refine wpS_last rfl (by rfl) (fun K hK => ?_)
      go_simp
      go_at_call 97
      refine (uint_i s.n (by omega) I6.out (by have := Lens.out; simp only [List.length_append]; omega) T0.out).mono ?_
      rintro e w7 ⟨rfl, i7⟩
      rw [← Lens.out.2.2.2.2.2.2.2] at i7
      have I7 := Lib.hid i7
      clear i7
      refine hK _ _ ?_
      clear hK K
      try simp only [Act.put, List.setIfInBounds_toArray, List.set_cons_zero, List.set_cons_succ]
      refine wpS_nil ?_
      clear c0 c1 c2 c3 c4 c5 c6
      obtain ⟨c0, c1, c2, c3, c4, c5, c6⟩ := FF.out w7 I7.out.be
      go_wp2_with fail
      clear c0 c1 c2 c3 c4 c5 c6 hS hS4 hS5 hS6
      obtain ⟨Ax, hAx⟩ : ∃ Ax, s.A = Ax := ⟨_, rfl⟩
      have rl := A0.out.l
      rw [hAx] at rl ⊢
      clear hAx
      go_loopg [9, 49] s.n (fun m s9 s49 wr2 => ∃ j : Nat, m = s.n - j ∧ j ≤ s.n ∧ s49 = .int .i64 j ∧ EncI W0 wr2 W0.heap.size (M1 ++ entF ((s.L.map en).take j)))
      case atStart => exact ⟨0, by omega, by omega, rfl, by simpa [entF] using I7.out⟩
      case round =>
        obtain ⟨j, hm2, hj2, rfl, hI⟩ := hrel
        have Hm2 := Lib.hid hm2
        have HI2 := Lib.hid hI
        clear hm2 hI
        by_cases hlt : j < s.n
        · obtain ⟨b, o, x, rfl, _, hbl, hx, c0, c1, c2, c3⟩ := er_cells ((rl.mono fun b hb => hb.2).below HI2.out.be) hlt
          have hltI : (j : Int) < s.n := by omega
          have hwx := Hwt.out x (List.mem_of_getElem? hx)
          have hok := Ok.out (en x) (List.mem_map_of_mem (List.mem_of_getElem? hx))
          have hdx := A0.out.d x (List.mem_of_getElem? hx)
          have hxs : (s.L.map en).take (j + 1) = (s.L.map en).take j ++ [en x] := by
            rw [List.take_add_one, List.getElem?_map, hx]
            rfl
          have hlen : (M1 ++ entF ((s.L.map en).take j)).length ≤ 400000000 := by
            have h1 := Hen.out j
            have h2 := Lens.out.2.2.2.2.2.2.1
            rw [List.length_append]
            omega
          have Hx := Lib.hid (And.intro hwx (And.intro hok (And.intro hdx (And.intro hxs hlen))))
          clear hwx hok hdx hxs hlen hx
          go_upto_region 11 with (fail)
          obtain ⟨W5, hW5⟩ : ∃ W5, W5 = wr.alloc (.cells #[.int .i64 x.a, .int .i64 x.b, .int .i64 x.c, .slice x.A x.n x.m] 143) := ⟨_, rfl⟩
          have hb5 : Below wr.heap.size wr W5 := by subst hW5; exact (Below.refl _ _).alloc (Nat.le_refl _) _
          obtain ⟨v0, v1, v2, v3, -⟩ := (show Bx W5 wr.heap.size #[.int .i64 x.a, .int .i64 x.b, .int .i64 x.c, .slice x.A x.n x.m] by subst hW5; exact Bx.new _ _ _ rfl).c4
          have i5 := HI2.out.below hb5
          have hen5 := enc_er x W5 Hx.out.1 ((Hx.out.2.2.1.1.any).below i5.be) (T0.out.below i5.be (Nat.le_refl _))
          rw [show encE (en x) = encI (en x) from (encI_ok Hx.out.2.1).symm] at hen5
          rw [← hW5]
          have I5b := Lib.hid i5
          have Hen5 := Lib.hid hen5
          clear hW5 hb5 i5 hen5 c0 c1 c2 c3
          go_wp2_with fail
          refine Hen5.out.mono ?_
          rintro e w8 ⟨A8, n8, d8, rfl, o8, hb8⟩
          have r8 := Rd.of_own o8
          have hn8 : (encI (en x)).length = n8 := r8.blen
          have hdl : (encI (en x)).length ≤ 5000 := by
            have h1 := encI_len (en x) (by have := Hx.out.2.1.2.2.2.2.2.2; omega)
            have h2 := Hx.out.2.1.2.2.2.2.2.2
            omega
          have K8 := Lib.hid (And.intro hb8 (And.intro r8 (And.intro hn8 hdl)))
          clear hb8 r8 hn8 hdl o8
          go_wp2_with fail
          refine (bytes_i (W := W5) (W' := w8) A8 n8 d8 (encI (en x)) I5b.out K8.out.1 (by have := Hx.out.2.2.2.2; omega) T0.out K8.out.2.1 (by have := K8.out.2.2; omega)).mono ?_
          rintro e w9 ⟨rfl, i9⟩
          have i9' : EncI W0 w9 W0.heap.size (M1 ++ entF ((s.L.map en).take (j + 1))) := by
            rw [Hx.out.2.2.2.1, entF_snoc, ← List.append_assoc]
            exact i9
          have I9 := Lib.hid i9'
          clear i9 i9'
          go_wp2_with fail
          go_roundg (s.n - (j + 1))
          case measure => have := Hm2.out; omega
          case rel => exact ⟨j + 1, rfl, by omega, by go_num, I9.out⟩
        · obtain rfl : j = s.n := by omega
          have iz : EncI W0 wr W0.heap.size (M1 ++ entF (s.L.map en)) := by
            have := HI2.out
            rwa [List.take_of_length_le (Nat.le_of_eq (by rw [List.length_map]; exact Hl.out))] at this
          have hlen : (M1 ++ entF (s.L.map en)).length ≤ 400000000 := by
            have h1 := Hen.out s.n
            have h2 := Lens.out.2.2.2.2.2.2.1
            rw [List.take_of_length_le (Nat.le_of_eq (by rw [List.length_map]; exact Hl.out))] at h1
            rw [List.length_append]
            omega
          have hd := done_i iz (by omega)
          have Hd := Lib.hid hd
          clear hd iz hlen
          go_wp2_with fail
          refine Hd.out.mono ?_
          rintro e w9 h9
          obtain ⟨A9, n9, c9, rfl, o9, hb9⟩ := LayR.up B.out.1 h9
          go_wp2_with fail
          go_ret
          exact ⟨A9, n9, c9, rfl, o9, hb9⟩
end Go.Proofs.YtlecglmiigdjlaaGreatDoor
namespace Go.Proofs.YtlecglmiigdjlaaGreatDoor
open Go.RowKit
set_option linter.unusedVariables false
set_option linter.unusedSimpArgs false
set_option maxRecDepth 100000
def OwnPost (W : World) (n : Nat) (l : List Int) (e : Ending) (w' : World) : Prop := ∃ A c, e = .returned (.slice A n c) ∧ w'.ownsRow W.heap.size 3 1 (.slice A n c) n (ii l) ∧ Below W.heap.size W w'
theorem eqlC (w : World) (A : Option Addr) (n c : Nat) : (binOp .eql 32 (.slice A n c) (.slice none 0 0)).run Tryz.prog w = .ok (.bool A.isNone) w := Lib.run_eql_slice_nil w 32 3 A n c 0 0 Tryz.underlying32
attribute [local go_sem] eqlC
theorem cloneC_any (A : Option Addr) (n c : Nat) (l : List Int) (w : World) {ok : Nat → Prop} (hr : Rd w ok 1 A n (ii l)) (hn : n ≤ 1000000) :
    Calls Tryz.prog 35 #[.slice A n c] w (OwnPost w n l) := by
  have h1 := ii_one l
  cases A with
  | none =>
    obtain ⟨rfl, h0⟩ := hr.nil_of_none
    obtain rfl : l = [] := by simpa [ii] using h0
    go_enter Tryz.func35, Tryz.ntmps35
    go_wp2_with fail
    go_ret
    exact ⟨_, _, rfl, ⟨by simp [ii], .inl ⟨rfl, rfl⟩⟩, Below.refl _ _⟩
  | some ad =>
    go_enter Tryz.func35, Tryz.ntmps35
    go_wp2_with (at_builtin; refine wpList_append_any _ Tryz.underlying32 int_elem rfl (by omega) rfl rfl rfl (own_new w w.heap.size 3 1 (Nat.le_refl _)) rfl (hr.alloc _) h1 (by omega) (by simp) (Nat.zero_add _) (List.nil_append _) ?_; intro A1 c1 w1 hown1 hg1 hat1)
    go_ret
    exact ⟨_, _, rfl, hown1, ((Below.refl _ _).alloc (Nat.le_refl _) _).grown hg1 (by simp) (by simp)⟩
end Go.Proofs.YtlecglmiigdjlaaGreatDoor
namespace Go.Proofs.YtlecglmiigdjlaaGreatDoor
open Go.RowKit
set_option maxRecDepth 100000
set_option linter.unusedVariables false
set_option linter.unusedSimpArgs false
theorem bs_one' (l : List UInt8) : ∀ u ∈ bs l, u.oneCell' = true := bs_one l
def StOwn (W : World) (s : St) (e : Ending) (w' : World) : Prop :=
  ∃ s' : Sv, e = .returned s'.val ∧ s'.At w' (W.heap.size ≤ ·) ∧ s'.st = s ∧ Below W.heap.size W w'
set_option maxHeartbeats 3200000 in
theorem sown_any (tm vt b t : Int) (A : Option Addr) (n c : Nat) (L : List Er) (C : Option Addr) (nc cc : Nat) (cf : List Int) (S : Option Addr) (ns cs : Nat) (sn : List UInt8) (w : World)
    (hr : Rd w T 4 A n (flat ecell L)) (hd : Dat w L) (hw : Wel L) (hs : ∀ x ∈ L, x.n ≤ 1000000) (hm : lmay b t (L.map en) = true) (hn : n ≤ 1000000) (hnn : n ≤ c) (hcm : c ≤ maxLen) (hc : Rd w T 1 C nc (ii cf)) (hnc : nc ≤ 1000000) (hsn : Rd w T 1 S ns (bs sn)) (hns : ns ≤ 35184372088832) :
    Calls Tryz.prog 94 #[stA tm vt b t A n c C nc cc S ns cs] w (StOwn w ⟨tm, vt, b, t, L.map en, cf, sn⟩) := by
  obtain ⟨W0, hW0⟩ : ∃ W0, W0 = (w.alloc (.cells #[.int .i64 tm, .int .i64 vt, .int .i64 b, .int .i64 t, .slice A n c, .slice C nc cc, .slice S ns cs] 35)).alloc (.cells #[.int .i64 0, .int .i64 0, .int .i64 0, .int .i64 0, .slice none 0 0, .slice none 0 0, .slice none 0 0] 35) := ⟨_, rfl⟩
  have b0 : Bx W0 w.heap.size #[.int .i64 tm, .int .i64 vt, .int .i64 b, .int .i64 t, .slice A n c, .slice C nc cc, .slice S ns cs] := by subst hW0; exact (Bx.new _ _ _ rfl).alloc _
  have hbe : Below w.heap.size w W0 := by subst hW0; exact ((Below.refl _ _).alloc (Nat.le_refl _) _).alloc (by simp) _
  have hcp := comp_own b t A n c L W0 (hr.below hbe) (hd.below hbe) hw hs hm hn hnn hcm
  obtain ⟨c0, c1, c2, c3, c4, c5, c6⟩ := b0.c7
  have HW := Lib.hid hW0
  have b9 : Bx W0 (w.heap.size + 1) #[.int .i64 0, .int .i64 0, .int .i64 0, .int .i64 0, .slice none 0 0, .slice none 0 0, .slice none 0 0] := by subst hW0; exact Bx.new _ _ _ (by simp)
  have hz0 : W0.heap.size = w.heap.size + 2 := by subst hW0; simp
  have B9 := Lib.hid (And.intro b9 hz0)
  have B := Lib.hid (And.intro b0 hbe)
  have Hcp := Lib.hid hcp
  clear hW0 b0 hbe hcp b9 hz0
  unfold stA
  go_enter Tryz.func94, Tryz.ntmps94
  go_upto_region 1 with (fail)
  rw [← HW.out]
  go_wp2_with fail
  refine Hcp.out.mono ?_
  rintro e w1 ⟨A1, c1', L1, rfl, r1, d1, e1, k1, hb1⟩
  clear c0 c1 c2 c3 c4 c5 c6
  obtain ⟨c0, c1, c2, c3, c4, c5, c6⟩ := (B.out.1.below hb1).c7
  have f2 : w1.frozen? ⟨w.heap.size, 2, none⟩ = false := (B.out.1.below hb1).f 2
  have f3 : w1.frozen? ⟨w.heap.size, 3, none⟩ = false := (B.out.1.below hb1).f 3
  have f4 : w1.frozen? ⟨w.heap.size, 4, none⟩ = false := (B.out.1.below hb1).f 4
  go_upto_region 2 with (fail)
  obtain ⟨W2, hW2⟩ : ∃ W2, W2 = (((w1.setCell ⟨w.heap.size, 2, none⟩ (.int .i64 b)).setCell ⟨w.heap.size, 3, none⟩ (.int .i64 t)).setCell ⟨w.heap.size, 4, none⟩ (.slice A1 n c1')) := ⟨_, rfl⟩
  have x2 : Bx W2 w.heap.size #[.int .i64 tm, .int .i64 vt, .int .i64 b, .int .i64 t, .slice A1 n c1', .slice C nc cc, .slice S ns cs] := by
    subst hW2
    exact (((B.out.1.below hb1).set 2 _).set 3 _).set 4 _
  have y2 : Bx W2 (w.heap.size + 1) #[.int .i64 0, .int .i64 0, .int .i64 0, .int .i64 0, .slice none 0 0, .slice none 0 0, .slice none 0 0] := by
    subst hW2
    exact (((B9.out.1.below hb1).far (by simp) _).far (by simp) _).far (by simp) _
  have hz0 := B9.out.2
  have hne : ¬ W0.heap.size ≤ w.heap.size := by omega
  have r2 : Rd W2 (W0.heap.size ≤ ·) 4 A1 n (flat ecell L1) := by
    subst hW2
    exact ((r1.setCell (p := ⟨w.heap.size, 2, none⟩) hne _).setCell (p := ⟨w.heap.size, 3, none⟩) hne _).setCell (p := ⟨w.heap.size, 4, none⟩) hne _
  have d2 : DatB W2 W0.heap.size L1 := by
    subst hW2
    exact fun y hy => ⟨(((d1 y hy).1.setCell (p := ⟨w.heap.size, 2, none⟩) hne _).setCell (p := ⟨w.heap.size, 3, none⟩) hne _).setCell (p := ⟨w.heap.size, 4, none⟩) hne _, (d1 y hy).2⟩
  have hb2 : Below w.heap.size w W2 := by
    subst hW2
    exact (((B.out.2.trans (hb1.mono B.out.2.size)).setCell (Nat.le_refl _) _).setCell (Nat.le_refl _) _).setCell (Nat.le_refl _) _
  have hcc := fun W (h : Below W2.heap.size W2 W) => cloneC_any C nc cc cf W (((hc.lt (by omega)).mono fun b hb => hb.2).below (hb2.trans (h.mono hb2.size))) hnc
  have hcs := fun W (h : Below W2.heap.size W2 W) => clone_any S ns cs (bs sn) W (((hsn.lt (by omega)).mono fun b hb => hb.2).below (hb2.trans (h.mono hb2.size))) (bs_one' _) hns
  have h0z : W0.heap.size ≤ W2.heap.size := by subst hW2; simpa [World.setCell] using hb1.size
  rw [← hW2]
  clear c0 c1 c2 c3 c4 c5 c6 f2 f3 f4
  obtain ⟨c0, c1, c2, c3, c4, c5, c6⟩ := x2.c7
  have f5 : W2.frozen? ⟨w.heap.size, 5, none⟩ = false := x2.f 5
  have f6 : W2.frozen? ⟨w.heap.size, 6, none⟩ = false := x2.f 6
  have X2 := Lib.hid (And.intro x2 y2)
  have R2 := Lib.hid (And.intro r2 (And.intro d2 (And.intro e1 k1)))
  have HB2 := Lib.hid (And.intro hb2 (And.intro hne h0z))
  have Hcc := Lib.hid hcc
  have Hcs := Lib.hid hcs
  clear x2 y2 r2 d2 hb2 hne hcc hcs hW2 r1 d1 e1 k1 hb1 hz0 hc hsn hr hd hw hs hm h0z
  go_region_law (first
    | (go_simp; go_at_call 35; refine (Hcc.out _ (Below.refl _ _).drew).mono ?_; rintro e w3 ⟨A3, c3', rfl, o3, hb3⟩; have x3 := X2.out.1.drew.below hb3; have y5 := x3.c 5; have y6 := x3.c 6; have g5 := x3.f 5; have g6 := x3.f 6; have X3 := Lib.hid x3; clear x3)
    | (go_simp; go_at_call 58; refine (Hcs.out w3 ((Below.refl _ _).drew.trans hb3)).mono ?_; rintro e w4 ⟨A4, c4', rfl, o4, hb4⟩; have x4 := X3.out.below hb4; have z5 := x4.c 5; have z6 := x4.c 6; have k5 := x4.f 5; have k6 := x4.f 6; have X4 := Lib.hid x4; clear x4))
  all_goals
    obtain ⟨W5, hW5⟩ : ∃ W5, W5 = (w4.setCell ⟨w.heap.size, 5, none⟩ (.slice A3 nc c3')).setCell ⟨w.heap.size, 6, none⟩ (.slice A4 ns c4') := ⟨_, rfl⟩
    have hne := HB2.out.2.1
    have h0z := HB2.out.2.2
    have hz0 := B9.out.2
    have e2 : W2.drew.heap.size = W2.heap.size := rfl
    have x5 : Bx W5 w.heap.size #[.int .i64 tm, .int .i64 vt, .int .i64 b, .int .i64 t, .slice A1 n c1', .slice A3 nc c3', .slice A4 ns c4'] := by
      subst hW5
      exact (X4.out.set 5 _).set 6 _
    have y5' : Bx W5 (w.heap.size + 1) #[.int .i64 0, .int .i64 0, .int .i64 0, .int .i64 0, .slice none 0 0, .slice none 0 0, .slice none 0 0] := by
      subst hW5
      exact (((X2.out.2.drew.below hb3).below hb4).far (by simp) _).far (by simp) _
    have r5 : Rd W5 (W0.heap.size ≤ ·) 4 A1 n (flat ecell L1) := by
      subst hW5
      exact (((R2.out.1.drew.below hb3).below hb4).setCell (p := ⟨w.heap.size, 5, none⟩) hne _).setCell (p := ⟨w.heap.size, 6, none⟩) hne _
    have d5 : DatB W5 W0.heap.size L1 := by
      subst hW5
      exact fun y hy => ⟨((((R2.out.2.1 y hy).1.drew.below hb3).below hb4).setCell (p := ⟨w.heap.size, 5, none⟩) hne _).setCell (p := ⟨w.heap.size, 6, none⟩) hne _, (R2.out.2.1 y hy).2⟩
    have c5' : Rd W5 (W0.heap.size ≤ ·) 1 A3 nc (ii cf) := by
      subst hW5
      exact ((((Rd.of_own o3).mono fun q hq => (by omega : W0.heap.size ≤ q)).below hb4).setCell (p := ⟨w.heap.size, 5, none⟩) hne _).setCell (p := ⟨w.heap.size, 6, none⟩) hne _
    have s5' : Rd W5 (W0.heap.size ≤ ·) 1 A4 ns (bs sn) := by
      subst hW5
      have hz3 := hb3.size
      exact (((Rd.of_own o4).mono fun q hq => (by omega : W0.heap.size ≤ q)).setCell (p := ⟨w.heap.size, 5, none⟩) hne _).setCell (p := ⟨w.heap.size, 6, none⟩) hne _
    have hb5 : Below w.heap.size w W5 := by
      subst hW5
      have hz2 := HB2.out.1.size
      have hz3 := hb3.size
      exact (((HB2.out.1.drew.trans (hb3.mono (by omega))).trans (hb4.mono (by omega))).setCell (Nat.le_refl _) _).setCell (Nat.le_refl _) _
    have cp3 := own_cp o3
    have cp4 := own_cp o4
    rw [← hW5]
    have K := Lib.hid (And.intro r5 (And.intro d5 (And.intro c5' (And.intro s5' (And.intro hb5 (And.intro R2.out.2.2.1 (And.intro R2.out.2.2.2 (And.intro hz0 (And.intro cp3 cp4)))))))))
    obtain ⟨a0, a1, a2, a3, a4, a5, a6⟩ := x5.c7
    obtain ⟨q0, q1, q2, q3, q4, q5, q6⟩ := y5'.c7
    have p0 := y5'.f 0
    have p1 := y5'.f 1
    have p2 := y5'.f 2
    have p3 := y5'.f 3
    have p4 := y5'.f 4
    have p5 := y5'.f 5
    have p6 := y5'.f 6
    clear c0 c1 c2 c3 c4 c5 c6 f5 f6 z5 z6 k5 k6 y5 y6 g5 g6 hW5 x5 y5' r5 d5 c5' s5' hb5 hne h0z hz0 e2 hb3 hb4 o3 o4 X2 X3 X4 R2 HB2 cp3 cp4
    go_wp2_with fail
    refine bodyPost_ret (by simp [results, Tryz.results94, go_sem, q0, q1, q2, q3, q4, q5, q6]; rfl) rfl ?_
    obtain ⟨k1, k2, k3, k4, k5, k6, k7, k8, k9, k10⟩ := K.out
    have hne : ¬ W0.heap.size ≤ w.heap.size + 1 := by omega
    refine ⟨⟨tm, vt, b, t, A1, n, c1', L1, A3, nc, c3', cf, A4, ns, c4', sn⟩, rfl, ?_, ?_, ?_⟩
    · refine Sv.At.mono (ok := (W0.heap.size ≤ ·)) ?_ fun q hq => (by omega : w.heap.size ≤ q)
      refine Sv.At.keep (W := W5) ⟨k1, k2, k3, k4, k7, k9, k10⟩ fun q hq _ => ?_
      have hq2 : W0.heap.size ≤ q := hq
      iterate 7 refine (Below.heap_setCell _ _ _ q (by show q ≠ w.heap.size + 1; omega)).trans ?_
      rfl
    · unfold Sv.st
      dsimp only
      rw [k6]
    · exact ((((((k5.setCell (by simp) _).setCell (by simp) _).setCell (by simp) _).setCell (by simp) _).setCell (by simp) _).setCell (by simp) _).setCell (by simp) _
theorem sown_sv (s : Sv) (w : World) {ok : Nat → Prop} (h : s.At w ok) (hf : s.Fit) (hm : lmay s.b s.t (s.L.map en) = true) :
    Calls Tryz.prog 94 #[s.val] w (StOwn w s.st) :=
  sown_any _ _ _ _ _ _ _ _ _ _ _ _ _ _ _ _ w h.l.any h.dat (h.wel hf) (fun y hy => (hf.w y hy).2) hm hf.z.1 h.k1.1 h.k1.2 h.cf.any hf.z.2.1 h.sn.any (by have := hf.z.2.2; omega)
end Go.Proofs.YtlecglmiigdjlaaGreatDoor
