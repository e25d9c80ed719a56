/- Walk of tollbarlaw18.NetTurns: the bit is there. -/
import Derived.Test.YtaamdocibbpnkaaDoorTurns
namespace Go.Proofs.YtaamdocibbpnkaaDoor
open Go.RowKit
set_option linter.unusedVariables false
set_option linter.unusedSimpArgs false
set_option maxRecDepth 100000
theorem shl_ne (kk : Nat) (h : kk < 8) : (1 : UInt8) <<< UInt8.ofNat kk ≠ 0 := by
  have h8 : kk = 0 ∨ kk = 1 ∨ kk = 2 ∨ kk = 3 ∨ kk = 4 ∨ kk = 5 ∨ kk = 6 ∨ kk = 7 := by omega
  rcases h8 with rfl | rfl | rfl | rfl | rfl | rfl | rfl | rfl <;> decide
theorem xor_ne (c q : UInt8) (h : q ≠ 0) : c ^^^ q ≠ c := by
  intro e
  apply h
  have : (c ^^^ (c ^^^ q)) = c ^^^ c := by rw [e]
  simpa [← UInt8.xor_assoc] using this
theorem xor_twice (c q : UInt8) : (c ^^^ q) ^^^ q = c := by simp [UInt8.xor_assoc]
theorem u8_int_ne {a b : UInt8} (h : a ≠ b) : (((a.toNat : Nat) : Int) != ((b.toNat : Nat) : Int)) = true := by
  simp only [bne_iff_ne, ne_eq, Int.natCast_inj]
  intro e
  exact h (UInt8.toNat_inj.1 e)
/-- The item of a row of one. -/
theorem items_read {W : World} {y : Ic} {e : Ending} {w' : World} {n : Nat} {ok : Nat → Prop} {A : Option Addr} (hn : Rd W ok 1 A n (bs y.d)) (h : ItemsPost W [y] e w') :
    ∃ b o c' A1 c1, e = .returned (.slice (some ⟨b, o, none⟩) 1 c') ∧ w'.cell? ⟨b, o + 3, none⟩ = some (.slice A1 n c1) ∧ W.heap.size ≤ b ∧ Rd w' (W.heap.size ≤ ·) 1 A1 n (bs y.d) ∧ Below W.heap.size W w' := by
  obtain ⟨A4, c4, l4, rfl, hr4, hpl, hd4, hb4⟩ := h
  obtain ⟨y', rfl, hy⟩ := items_one hpl
  have hdy := hd4 y' (by simp)
  rw [hy] at hdy
  obtain ⟨b, o, x, rfl, hb, _, hx, _, _, _, hc3⟩ := ic_cells (j := 0) hr4 (by simp)
  obtain rfl : y' = x := by simpa using hx
  simp only [Nat.zero_mul, Nat.add_zero] at hc3
  have hny : y'.n = n := by rw [← hdy.blen, ← hn.blen]
  rw [hny] at hdy hc3
  exact ⟨b, o, c4, y'.A, y'.c, rfl, hc3, hb, hdy, hb4⟩
set_option maxHeartbeats 3200000 in
theorem turns_in (A : Option Addr) (n c : Nat) (d : List UInt8) (m jj kk : Nat) (w : World) (hr : Rd w (· < w.heap.size) 1 A n (bs d)) (hn : (n : Int) ≤ 1000) (hjj : jj = m / 8) (hkk : kk = m % 8) (hm : jj < n) :
    Calls Tryd.prog 3 #[.slice A n c, .int .i64 (m : Nat)] w (YesPost w) := by
  have hdl := hr.blen
  obtain ⟨c0, hc0⟩ : ∃ c0, d[jj]? = some c0 := ⟨_, List.getElem?_eq_getElem (by omega)⟩
  have hq := shl_ne kk (by omega)
  have hturn := fun (W : World) g gm lim last cnt f A nl cl l z hi hnl j y hy hz hne hbit c1 hc1 => turn_yes g gm lim last cnt f A nl cl l z m jj kk W hi hnl j y hy hz hne hbit hjj hkk c1 hc1
  generalize (1 : UInt8) <<< UInt8.ofNat kk = q at hq hturn
  have Hturn := Lib.hid hturn
  clear hturn
  obtain ⟨d1, hd1⟩ : ∃ d1, d1 = d.set jj (c0 ^^^ q) := ⟨_, rfl⟩
  have hd1l : d1.length = d.length := by rw [hd1]; simp
  have hd1g : d1[jj]? = some (c0 ^^^ q) := by rw [hd1, List.getElem?_set_self (by omega)]
  have hd1o : ∀ i, i ≠ jj → d1[i]? = d[i]? := fun i hi => by rw [hd1, List.getElem?_set_ne (fun e => hi e.symm)]
  have hd2 : d1.set jj ((c0 ^^^ q) ^^^ q) = d := by
    rw [xor_twice, hd1, List.set_set]
    refine List.ext_getElem? fun k => ?_
    rw [List.getElem?_set]
    split
    · rename_i hk
      subst hk
      rw [if_pos (by omega), hc0]
    · rfl
  have hxne := u8_int_ne (xor_ne c0 q hq)
  have Hm := Lib.hid (And.intro hjj hkk)
  have Hd := Lib.hid (And.intro hd1 (And.intro hd2 hd1o))
  have Hr := Lib.hid hr
  have Hl := Lib.hid (And.intro hdl hd1l)
  have Hc := Lib.hid (And.intro hc0 hd1g)
  have e1 : ((m : Int) / 8) = (jj : Int) := by omega
  have hj0 : (0 : Int) ≤ jj := by omega
  have hjn : (jj : Int) < n := by omega
  have hm0 : ¬ (m : Int) < 0 := by omega
  have hwj : IntKind.i64.wrap ((jj : Nat) : Int) = (jj : Int) := by first | exact IntWalk.wrap64_in _ ⟨by omega, by omega⟩ | (simp [IntKind.wrap, IntKind.signed, IntKind.bits]; omega)
  clear hjj hkk hd1 hd2 hd1o hr hdl hd1l hc0 hd1g hq
  go_enter Tryd.func3, Tryd.ntmps3
  go_wp2_with fail
  refine (new_any 3 w (by omega) (by omega)).mono ?_
  rintro e w1 ⟨rfl, hn1, hb1⟩
  have hi1 := NI.made hn1
  have Hi1 := Lib.hid hi1
  clear hn1 hi1
  go_wp2_with fail
  refine (put_new (w.heap.size + 1) w.heap.size 3 0 0 _ none 0 0 [] 1 2 A n c d w1 Hi1.out.ns (by omega) (by omega) (by omega) (by omega) (by omega) rfl (Hr.out.below hb1).any (by omega) (by omega) (by omega) (by omega)).mono ?_
  intro e w2 hp
  obtain ⟨A2, c2, A3, c3, rfl, hi2, hb2⟩ := NI.put (l := []) Hi1.out (by omega) hp
  replace hb2 := hb1.trans hb2
  have Hi2 := Lib.hid hi2
  clear hp hi2 hb1 Hi1
  go_wp2_with fail
  refine (Hturn.out w2 (w.heap.size + 1) w.heap.size 3 _ 0 _ A2 _ c2 _ 1 Hi2.out (by omega) 0 ⟨1, 1, 2, A3, n, c3, d⟩ (by simp) (by rfl) (by simp) (by have := Hm.out; show m < 8 * n; omega) c0 Hc.out.1).mono ?_
  rintro e w3 ⟨rfl, hi3, hb3, -⟩
  have hi3' : NI w3 (w.heap.size + 1) w.heap.size 3 (0 + 1) 0 (fun _ _ => 0) A2 (0 + 1) c2 [⟨1, 1, 2, A3, n, c3, d1⟩] := by
    have := hi3
    rw [Hd.out.1]
    exact this
  replace hb3 := hb2.trans hb3
  have Hi3 := Lib.hid hi3'
  have Hb3 := Lib.hid hb3
  clear hi3 hi3' hb2 hb3 Hi2
  go_wp2_with fail
  refine (items_any (w.heap.size + 1) w.heap.size 3 _ 0 _ A2 _ c2 _ w3 Hi3.out.ns Hi3.out.data (by omega)).mono ?_
  intro e w4 hp4
  obtain ⟨b4, o4, c4, A5, c5, rfl, k4, hb4l, hx4, hb4⟩ := items_read (Hi3.out.data _ (by simp)).1 hp4
  have hA3 := (Hi3.out.dt _ (List.mem_singleton.2 rfl)).1
  have hA3l := own_lt hA3
  have HA3l := Lib.hid hA3l
  change Rd w4 _ 1 A5 n (bs d1) at hx4
  change w4.cell? _ = some (.slice A5 n c5) at k4
  have hi4 := Hi3.out.below hb4
  have Hz4 := Lib.hid (And.intro hb4l hb4.size)
  replace hb4 := Hb3.out.trans (hb4.mono Hb3.out.size)
  have Hi4 := Lib.hid hi4
  have Hx4 := Lib.hid hx4
  have Hb4 := Lib.hid hb4
  have hrd := Hr.out.below hb4
  have Hrd := Lib.hid hrd
  obtain ⟨ba, oa, rfl, _, _, hca⟩ := hrd.plain (by omega) (by omega)
  obtain ⟨bx, ox, rfl, hbx, _, hcx⟩ := hx4.plain (by omega) (by omega)
  have Hbx := Lib.hid hbx
  have Hca := Lib.hid hca
  have Hcx := Lib.hid hcx
  clear hx4 hp4 hb4l hA3 hA3l hi4 hb4 hrd hca hcx hbx Hi3
  go_wp2_with fail
  clear k4
  go_loopg [12, 13] n (fun r s12 s13 wr => ∃ i : Nat, r = n - i ∧ i ≤ n ∧ s13 = .int .i64 i ∧ s12 = .int .i64 (if jj < i then 1 else 0) ∧ Below w4.heap.size w4 wr)
  case atStart => exact ⟨0, by omega, by omega, rfl, by rw [if_neg (by omega)], Below.refl _ _⟩
  case round =>
    obtain ⟨i, hrm, hi, rfl, rfl, hbr⟩ := hrel
    have Hrm := Lib.hid hrm
    clear hrm
    by_cases hin : i < n
    · have hinI : (i : Int) < n := by omega
      obtain ⟨u, hu⟩ : ∃ u, d[i]? = some u := ⟨_, List.getElem?_eq_getElem (by have := Hl.out; omega)⟩
      obtain ⟨v, hv⟩ : ∃ v, d1[i]? = some v := ⟨_, List.getElem?_eq_getElem (by have := Hl.out; omega)⟩
      have ka : wr.cell? ⟨ba, oa + i, none⟩ = some (.int .u8 (u.toNat : Int)) := by
        have h1 := Hca.out i (.int .u8 (u.toNat : Int)) (by simp [bs, hu])
        rw [hbr.cell (World.block_lt_of_cell? _ _ h1)]
        exact h1
      have kx : wr.cell? ⟨bx, ox + i, none⟩ = some (.int .u8 (v.toNat : Int)) := by
        have h1 := Hcx.out i (.int .u8 (v.toNat : Int)) (by simp [bs, hv])
        rw [hbr.cell (World.block_lt_of_cell? _ _ h1)]
        exact h1
      by_cases hij : i = jj
      · subst hij
        obtain rfl : u = c0 := by rw [Hc.out.1] at hu; exact (Option.some.inj hu).symm
        obtain rfl : v = u ^^^ q := by rw [Hc.out.2] at hv; exact (Option.some.inj hv).symm
        rw [if_neg (by omega)]
        clear hu hv
        generalize u ^^^ q = v at kx hxne
        go_wp2_with fail
        go_region
        all_goals
          go_wp2_with fail
          go_roundg (n - (i + 1))
          case measure => have := Hrm.out; omega
          case rel => exact ⟨i + 1, rfl, by omega, by go_num, by rw [if_pos (by omega)], below_drewN hbr _⟩
      · obtain rfl : v = u := by
          rw [Hd.out.2.2 i hij, hu] at hv
          exact (Option.some.inj hv).symm
        have e2 : (if jj < i then (1 : Int) else 0) = if jj < i + 1 then 1 else 0 := by
          by_cases h : jj < i
          · rw [if_pos h, if_pos (by omega)]
          · rw [if_neg h, if_neg (by omega)]
        rw [e2]
        clear hu hv
        clear e2
        obtain ⟨dd, hdd⟩ : ∃ dd : Int, dd = if jj < i + 1 then 1 else 0 := ⟨_, rfl⟩
        rw [← hdd]
        have Hdd := Lib.hid hdd
        clear hdd
        go_wp2_with fail
        go_region
        all_goals
          go_wp2_with fail
          go_roundg (n - (i + 1))
          case measure => have := Hrm.out; omega
          case rel => exact ⟨i + 1, rfl, by omega, by go_num, by rw [Hdd.out], below_drewN hbr _⟩
    · obtain rfl : i = n := by omega
      rw [if_pos (by omega)]
      go_wp2_with fail
      have hi5 := Hi4.out.below hbr
      have hb5 := Hb4.out.trans (hbr.mono Hb4.out.size)
      refine (Hturn.out wr (w.heap.size + 1) w.heap.size 3 _ 0 _ A2 _ c2 _ 1 hi5 (by omega) 0 ⟨1, 1, 2, A3, i, c3, d1⟩ (by simp) (by rfl) (by simp) (by have := Hm.out; show m < 8 * i; omega) _ Hc.out.2).mono ?_
      rintro e w6 ⟨rfl, hi6, hb6, hk6⟩
      have hi6' : NI w6 (w.heap.size + 1) w.heap.size 3 (0 + 1) 0 (fun _ _ => 0) A2 (0 + 1) c2 [⟨1, 1, 2, A3, i, c3, d⟩] := by
        have := hi6
        have e := Hd.out.2.1
        simp only [List.set_cons_zero, setD, e] at this
        exact this
      have hx6 : Rd w6 T 1 (some ⟨bx, ox, none⟩) i (bs d1) := by
        refine ((Hx4.out.below hbr).lt (by omega)).keep (fun b hb hlt => hk6 b hb.2 (fun e => ?_)) |>.any
        have h1 := HA3l.out b e
        have h2 : w3.heap.size ≤ b := hb.1
        omega
      replace hb6 := hb5.trans hb6
      have Hi6 := Lib.hid hi6'
      have Hx6 := Lib.hid hx6
      have Hb6 := Lib.hid hb6
      clear hi6 hi6' hk6 hx6 hb6 hi5 hb5 hbr
      go_wp2_with fail
      refine (items_any (w.heap.size + 1) w.heap.size 3 _ 0 _ A2 _ c2 _ w6 Hi6.out.ns Hi6.out.data (by omega)).mono ?_
      intro e w7 hp7
      obtain ⟨b7, o7, c7, A8, c8, rfl, k7, hb7l, hx7, hb7⟩ := items_read (Hi6.out.data _ (by simp)).1 hp7
      change Rd w7 _ 1 A8 i (bs d) at hx7
      change w7.cell? _ = some (.slice A8 i c8) at k7
      have hx8 := Hx6.out.below hb7
      replace hb7 := Hb6.out.trans (hb7.mono Hb6.out.size)
      have hrd := Hr.out.below hb7
      obtain ⟨_, _, ea, _, _, hca⟩ := hrd.plain (by omega) (by omega)
      obtain ⟨rfl, rfl⟩ : ba = _ ∧ oa = _ := by injection ea with ea; injection ea with e1 e2 _; exact ⟨e1, e2⟩
      obtain ⟨_, _, ea, _, _, hcx⟩ := hx8.plain (by omega) (by omega)
      obtain ⟨rfl, rfl⟩ : bx = _ ∧ ox = _ := by injection ea with ea; injection ea with e1 e2 _; exact ⟨e1, e2⟩
      have ka := hca jj (.int .u8 (c0.toNat : Int)) (by simp [bs, Hc.out.1])
      have kx := hcx jj (.int .u8 ((c0 ^^^ q).toNat : Int)) (by have := Hc.out.2; simp only [bs, List.getElem?_map, this]; rfl)
      generalize c0 ^^^ q = v at kx hxne
      have h1 := fun W (hb : Below w7.heap.size w7 W) => conv_bytes (P := Tryd.prog) (w := W) (c := c8) 22 9 5 Tryd.underlying22 Tryd.underlying5 Tryd.underlying9 (hx7.below hb)
      have h2 := fun W (hb : Below w7.heap.size w7 W) => conv_bytes (P := Tryd.prog) (w := W) (c := c) 22 9 5 Tryd.underlying22 Tryd.underlying5 Tryd.underlying9 (hrd.below hb)
      have h1d := h1 w7.drew (Below.refl _ _).drew
      have h2d := h2 w7.drew (Below.refl _ _).drew
      replace h1 := h1 w7 (Below.refl _ _)
      replace h2 := h2 w7 (Below.refl _ _)
      have Hb7 := Lib.hid hb7
      clear hp7 hx7 hb7 hrd hca hcx hx8 ea hb7l
      go_wp2_with fail
      go_still_tail 46, (by kernel_rfl)
      change wpList _ _ _ _ _ w7.drew
      go_wp2_with fail
      refine (sure_any _).mono ?_
      rintro e w8 ⟨rfl, hb8⟩
      go_wp2_with fail
      go_ret
      exact ⟨rfl, Hb7.out.trans ((((Below.refl _ _).drew).trans hb8).mono Hb7.out.size)⟩
end Go.Proofs.YtaamdocibbpnkaaDoor
