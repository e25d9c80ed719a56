/- Walk of tollbarlaw18.NetKeeps. -/
import Derived.Test.YtaamdocibbpnkaaDoorKpPut
import Derived.Test.YtaamdocibbpnkaaDoorEnt
import Derived.Test.YtaamdocibbpnkaaDoorArith
import Derived.Test.YtaamdocibbpnkaaDoorSure
import Derived.Test.YtaamdocibbpnkaaDoorNum
import Derived.BigQuiet
namespace Go.Proofs.YtaamdocibbpnkaaDoor
open Go.RowKit
set_option linter.unusedVariables false
set_option linter.unusedSimpArgs false
set_option maxRecDepth 100000
theorem keeps_kind (z : Int) : ∃ v : Int, (IntKind.u64.wrap z).tmod 6 = v ∧ wrap64 v = v ∧ (v = 3 ∨ (v ≠ 3 ∧ v = 4) ∨ (v ≠ 3 ∧ v ≠ 4 ∧ v = 5) ∨ (v ≠ 3 ∧ v ≠ 4 ∧ v ≠ 5)) ∧ 0 ≤ v ∧ v < 6 := by
  obtain ⟨K, h1, -, h2, h3⟩ := uint_mod z 6 6 rfl (by omega) (by omega)
  rw [h2] at h3
  exact ⟨K, h2, h3, by omega, by omega, by omega⟩
set_option maxHeartbeats 6400000 in
theorem keeps_walk (A : Option Addr) (n c : Nat) (L : List Er) (w : World) (hg : ErrT w) (hr : Rd w T 4 A n (flat ecell L)) (hd : Dat w L) (hn : n ≤ 9223372036854775807) :
    Calls Tryd.prog 4 #[.slice A n c] w (YesPost w) := by
  have Hg := Lib.hid hg
  have Hr := Lib.hid hr
  have Hd := Lib.hid hd
  clear hg hr hd
  go_enter Tryd.func4, Tryd.ntmps4
  go_wp2_with fail
  refine (new_any 100 w (by omega) (by omega)).mono ?_
  rintro e w1 ⟨rfl, hn1, hb1⟩
  have K1 := Lib.hid (Kp.start hn1)
  have Hb1 := Lib.hid hb1
  clear hn1 hb1
  go_wp2_with fail
  go_loopg [5, 6, 7, 8, 9, 10, 11, 12, 13, 14, 15, 16, 17, 18] n (fun k s5 s6 s7 s8 s9 s10 s11 s12 s13 s14 s15 s16 s17 s18 wr => ∃ (i nl cl cS sl : Nat) (A' SA : Option Addr) (l : List Ic) (S : List (List UInt8)), k = n - i ∧ i ≤ n ∧ s6 = .int .i64 i ∧ s5 = .slice SA sl cS ∧ sl = S.length ∧ Kp wr (w.heap.size + 1) w.heap.size A' nl cl l SA cS S S ∧ nl ≤ i ∧ sl ≤ i ∧ i ≤ 60 ∧ Below w.heap.size w wr)
  case atStart => exact ⟨0, 0, 0, 0, 0, none, none, [], [], by omega, by omega, rfl, rfl, rfl, K1.out, by omega, by omega, by omega, Hb1.out⟩
  case round =>
    obtain ⟨i, nl, cl, cS, sl, A', SA, l, S, hk, hi, rfl, rfl, hsl, hkp, hnl, hsi, hi60, hb⟩ := hrel
    have Hk := Lib.hid hk
    have Kr := Lib.hid hkp
    have Hb := Lib.hid hb
    have Hsl := Lib.hid hsl
    clear hk hkp hb K1 Hb1 hsl
    by_cases hlt : i < n ∧ i < 60
    · obtain ⟨hlt, h60⟩ := hlt
      have hltI : (i : Int) < n := by omega
      have h60I : (i : Int) < 60 := by omega
      have h0i : (0 : Int) ≤ i := by omega
      obtain ⟨b, o, x, rfl, _, hbl, hx, c0, c1, c2, c3⟩ := er_cells (Hr.out.below Hb.out) hlt
      have hdx := Hd.out x (List.mem_of_getElem? hx)
      have Hdx := Lib.hid (hdx.1.below Hb.out)
      obtain ⟨v, hv1, hv2, hv3, hv4, hv5⟩ := keeps_kind x.a
      clear hx hdx
      by_cases h5 : (x.n : Int) ≤ 5000
      · have h5d : decide (5000 < (x.n : Int)) = false := decide_eq_false (by omega)
        have ba : ∀ ob, Below w.heap.size w (wr.alloc ob) := fun ob => Hb.out.alloc Hb.out.size ob
        have ka : ∀ ob, Kp (wr.alloc ob) (w.heap.size + 1) w.heap.size A' nl cl l SA cS S S := fun ob => Kr.out.below ((Below.refl _ _).alloc (Nat.le_refl _) ob)
        have Ka := Lib.hid ka
        have Ba := Lib.hid ba
        clear ka ba
        rcases hv3 with rfl | ⟨h3, rfl⟩ | ⟨h3, h4, rfl⟩ | ⟨h3, h4, h6⟩
        · rcases first_id x.b l with hno | ⟨j, y, hy, hz, hne⟩
          · have Hno := Lib.hid hno
            clear hno
            go_wp2_with fail
            refine (take_none (w.heap.size + 1) w.heap.size 100 _ 0 _ A' nl cl l x.b _ (Ka.out _).ni.ns (by omega) Hno.out).mono ?_
            rintro e w2 ⟨rfl, hb2⟩
            unfold errK
            go_wp2_with fail
            go_roundg (n - (i + 1))
            case measure => have := Hk.out; omega
            case rel => exact ⟨i + 1, nl, cl, cS, sl, A', SA, l, S, rfl, by omega, by go_num, rfl, Hsl.out, ((Ka.out _).below hb2).below ((Below.refl _ _).alloc (Nat.le_refl _) _), by omega, by omega, by omega, ((Ba.out _).trans (hb2.mono (Ba.out _).size)).alloc ((Ba.out _).trans (hb2.mono (Ba.out _).size)).size _⟩
          · obtain ⟨k, hk1, hk2, hk3, hk4⟩ := Kr.out.me y (List.mem_of_getElem? hy)
            have hyb : y.id = x.b := by simpa [byId] using hz
            have hxb : x.b = (k : Int) + 1 := by omega
            have Hyb := Lib.hid hyb
            have Hxb := Lib.hid hxb
            have hks : k < sl := by have := (List.getElem?_eq_some_iff.1 hk2).1; have := Hsl.out; omega
            have Hy := Lib.hid (And.intro hy (And.intro hz hne))
            have Hk2 := Lib.hid hk2
            have hjl : j < l.length := (List.getElem?_eq_some_iff.1 hy).1
            have hym := List.mem_of_getElem? hy
            clear hy hz hne hk1 hk2 hk3 hk4 hyb hxb
            go_wp2_with fail
            refine (take_yes (w.heap.size + 1) w.heap.size 100 _ 0 _ A' nl cl l x.b _ (Ka.out _).ni (by omega) j y Hy.out.1 Hy.out.2.1 Hy.out.2.2).mono ?_
            rintro e w2 ⟨rfl, hni, hbm, hk⟩
            unfold icA
            have K2 := Lib.hid ((Ka.out _).take hni hk)
            have gone := (Ka.out (.cells #[.int .i64 x.a, .int .i64 x.b, .int .i64 x.c, .slice x.A x.n x.m] 41)).gone Hy.out.1
            rw [Hyb.out] at gone
            have Gone := Lib.hid gone
            have hpg : wr.heap.size ≠ w.heap.size + 1 := Kr.out.av (Nat.le_refl _) |>.g
            have hpA : some wr.heap.size ≠ A'.map (·.block) := fun e => (Kr.out.av (Nat.le_refl _)).a e.symm
            have XP := (Bx.new wr #[.int .i64 x.a, .int .i64 x.b, .int .i64 x.c, .slice x.A x.n x.m] 41 rfl).keep (hk wr.heap.size (by simp) hpg hpA)
            have hyd := (Ka.out (.cells #[.int .i64 x.a, .int .i64 x.b, .int .i64 x.c, .slice x.A x.n x.m] 41)).ni.dt y hym
            have hydr : Rd w2 T 1 y.A y.n (bs y.d) := (Rd.of_own (own_same hyd.1 fun q hq => hk q (own_lt hyd.1 q hq).2 (by have := (own_lt hyd.1 q hq).1; omega) (fun e => (Ka.out (.cells #[.int .i64 x.a, .int .i64 x.b, .int .i64 x.c, .slice x.A x.n x.m] 41)).ni.sp y hym q hq e.symm))).any
            obtain ⟨p0, p1, p2, p3, -⟩ := XP.c4
            have XP2 := fun ob => XP.alloc ob
            obtain ⟨SAb, hSA⟩ : ∃ sb, SA = some ⟨sb, 0, none⟩ := by
              rcases K2.out.ow.2 with ⟨h', h''⟩ | ⟨g', _, _, h', _⟩
              · have := Hsl.out; omega
              · injection h' with h' _ _
                exact ⟨g', h'⟩
            subst hSA
            have sc : ∀ ob, (w2.alloc ob).cell? ⟨SAb, k, none⟩ = some (.string ⟨y.d.toArray⟩) := fun ob => by
              have h1 := (own_below K2.out.ow ((Below.refl _ _).alloc (Nat.le_refl _) ob)).cellAt k (by have := Hsl.out; omega)
              rw [h1, List.getElem?_map, Hk2.out]
              rfl
            have pc : ∀ ob, (w2.alloc ob).cell? ⟨wr.heap.size, 1, none⟩ = some (.int .i64 x.b) := fun ob => (XP2 ob).c 1
            have cv := fun ob => conv_bytes 22 9 5 Tryd.underlying22 Tryd.underlying5 Tryd.underlying9 (c := y.c) (hydr.alloc ob)
            have cvn := fun ob k => conv_bytes 22 9 5 Tryd.underlying22 Tryd.underlying5 Tryd.underlying9 (c := y.c) ((hydr.alloc ob).drewN k)
            have d1 : decide (x.b < 1) = false := decide_eq_false (by have := Hxb.out; omega)
            have d2 : decide ((sl : Int) < x.b) = false := decide_eq_false (by have := Hxb.out; omega)
            have d3 : IntKind.i64.wrap (x.b - 1) = (k : Int) := by rw [IntKind.wrap_i64]; have := Hxb.out; omega
            have d4 : (y.id != x.b) = false := by simp [Hyb.out]
            have d5 : (k : Int) < sl := by omega
            have d6 : (0 : Int) ≤ k := by omega
            have Hbm := Lib.hid hbm
            clear hni hk hyd hydr XP hbm gone hym
            have k3 := fun k => K2.out.below (below_drewN ((Below.refl w2.heap.size w2).alloc (Nat.le_refl _) (.cells #[.int .i64 y.id, .int .i64 y.fr, .int .i64 y.to, .slice y.A y.n y.c] 35)) k)
            have b2 : Below w.heap.size w w2 := (Ba.out (.cells #[.int .i64 x.a, .int .i64 x.b, .int .i64 x.c, .slice x.A x.n x.m] 41)).trans Hbm.out
            have b3 := fun k => below_drewN (b2.alloc b2.size (.cells #[.int .i64 y.id, .int .i64 y.fr, .int .i64 y.to, .slice y.A y.n y.c] 35)) k
            have K3 := Lib.hid k3
            have B3 := Lib.hid b3
            clear k3 b2 b3
            go_wp2_with fail
            go_quiet (fail)
            go_wp2_with fail
            refine (take_none (w.heap.size + 1) w.heap.size 100 _ 0 _ A' (nl - 1) cl _ x.b _ (K3.out _).ni.ns (by omega) Gone.out).mono ?_
            rintro e w3 ⟨rfl, hb3⟩
            unfold errK
            have b4 : Below w.heap.size w w3 := (B3.out _).trans (hb3.mono (B3.out _).size)
            have b5 := fun ob => b4.alloc b4.size ob
            have B5 := Lib.hid b5
            have K4 := Lib.hid ((K3.out _).below hb3)
            clear hb3 b4 b5
            go_wp2_with fail
            refine (num_err 8 _ (Hg.out.below (B5.out _))).mono ?_
            rintro e w4 ⟨rfl, hb4⟩
            go_wp2_with fail
            go_roundg (n - (i + 1))
            case measure => have := Hk.out; omega
            case rel => exact ⟨i + 1, nl - 1, cl, cS, sl, A', some ⟨SAb, 0, none⟩, _, S, rfl, by omega, by go_num, rfl, Hsl.out, (K4.out.below ((Below.refl _ _).alloc (Nat.le_refl _) _)).below hb4, by omega, by omega, by omega, (B5.out _).trans (hb4.mono (B5.out _).size)⟩
        · rcases first_id x.b l with hno | ⟨j, y, hy, hz, hne⟩
          · have Hno := Lib.hid hno
            clear hno
            go_wp2_with fail
            refine (take_none (w.heap.size + 1) w.heap.size 100 _ 0 _ A' nl cl l x.b _ (Ka.out _).ni.ns (by omega) Hno.out).mono ?_
            rintro e w2 ⟨rfl, hb2⟩
            unfold errK
            go_wp2_with fail
            go_roundg (n - (i + 1))
            case measure => have := Hk.out; omega
            case rel => exact ⟨i + 1, nl, cl, cS, sl, A', SA, l, S, rfl, by omega, by go_num, rfl, Hsl.out, ((Ka.out _).below hb2).below ((Below.refl _ _).alloc (Nat.le_refl _) _), by omega, by omega, by omega, ((Ba.out _).trans (hb2.mono (Ba.out _).size)).alloc ((Ba.out _).trans (hb2.mono (Ba.out _).size)).size _⟩
          · obtain ⟨k, hk1, hk2, hk3, hk4⟩ := Kr.out.me y (List.mem_of_getElem? hy)
            have hyb : y.id = x.b := by simpa [byId] using hz
            have hxb : x.b = (k : Int) + 1 := by omega
            have Hyb := Lib.hid hyb
            have Hxb := Lib.hid hxb
            have hks : k < sl := by have := (List.getElem?_eq_some_iff.1 hk2).1; have := Hsl.out; omega
            have Hy := Lib.hid (And.intro hy (And.intro hz hne))
            have Hk2 := Lib.hid hk2
            have hjl : j < l.length := (List.getElem?_eq_some_iff.1 hy).1
            have hym := List.mem_of_getElem? hy
            clear hy hz hne hk1 hk2 hk3 hk4 hyb hxb
            go_wp2_with fail
            refine (take_yes (w.heap.size + 1) w.heap.size 100 _ 0 _ A' nl cl l x.b _ (Ka.out _).ni (by omega) j y Hy.out.1 Hy.out.2.1 Hy.out.2.2).mono ?_
            rintro e w2 ⟨rfl, hni, hbm, hk⟩
            unfold icA
            have K2 := Lib.hid ((Ka.out _).take hni hk)
            have gone := (Ka.out (.cells #[.int .i64 x.a, .int .i64 x.b, .int .i64 x.c, .slice x.A x.n x.m] 41)).gone Hy.out.1
            rw [Hyb.out] at gone
            have Gone := Lib.hid gone
            have hpg : wr.heap.size ≠ w.heap.size + 1 := Kr.out.av (Nat.le_refl _) |>.g
            have hpA : some wr.heap.size ≠ A'.map (·.block) := fun e => (Kr.out.av (Nat.le_refl _)).a e.symm
            have XP := (Bx.new wr #[.int .i64 x.a, .int .i64 x.b, .int .i64 x.c, .slice x.A x.n x.m] 41 rfl).keep (hk wr.heap.size (by simp) hpg hpA)
            have hyd := (Ka.out (.cells #[.int .i64 x.a, .int .i64 x.b, .int .i64 x.c, .slice x.A x.n x.m] 41)).ni.dt y hym
            have hydr : Rd w2 T 1 y.A y.n (bs y.d) := (Rd.of_own (own_same hyd.1 fun q hq => hk q (own_lt hyd.1 q hq).2 (by have := (own_lt hyd.1 q hq).1; omega) (fun e => (Ka.out (.cells #[.int .i64 x.a, .int .i64 x.b, .int .i64 x.c, .slice x.A x.n x.m] 41)).ni.sp y hym q hq e.symm))).any
            obtain ⟨p0, p1, p2, p3, -⟩ := XP.c4
            have XP2 := fun ob => XP.alloc ob
            obtain ⟨SAb, hSA⟩ : ∃ sb, SA = some ⟨sb, 0, none⟩ := by
              rcases K2.out.ow.2 with ⟨h', h''⟩ | ⟨g', _, _, h', _⟩
              · have := Hsl.out; omega
              · injection h' with h' _ _
                exact ⟨g', h'⟩
            subst hSA
            have sc : ∀ ob, (w2.alloc ob).cell? ⟨SAb, k, none⟩ = some (.string ⟨y.d.toArray⟩) := fun ob => by
              have h1 := (own_below K2.out.ow ((Below.refl _ _).alloc (Nat.le_refl _) ob)).cellAt k (by have := Hsl.out; omega)
              rw [h1, List.getElem?_map, Hk2.out]
              rfl
            have pc : ∀ ob, (w2.alloc ob).cell? ⟨wr.heap.size, 1, none⟩ = some (.int .i64 x.b) := fun ob => (XP2 ob).c 1
            have cv := fun ob => conv_bytes 22 9 5 Tryd.underlying22 Tryd.underlying5 Tryd.underlying9 (c := y.c) (hydr.alloc ob)
            have cvn := fun ob k => conv_bytes 22 9 5 Tryd.underlying22 Tryd.underlying5 Tryd.underlying9 (c := y.c) ((hydr.alloc ob).drewN k)
            have d1 : decide (x.b < 1) = false := decide_eq_false (by have := Hxb.out; omega)
            have d2 : decide ((sl : Int) < x.b) = false := decide_eq_false (by have := Hxb.out; omega)
            have d3 : IntKind.i64.wrap (x.b - 1) = (k : Int) := by rw [IntKind.wrap_i64]; have := Hxb.out; omega
            have d4 : (y.id != x.b) = false := by simp [Hyb.out]
            have d5 : (k : Int) < sl := by omega
            have d6 : (0 : Int) ≤ k := by omega
            have Hbm := Lib.hid hbm
            clear hni hk hyd hydr XP hbm gone hym
            have k3 := fun k => K2.out.below (below_drewN ((Below.refl w2.heap.size w2).alloc (Nat.le_refl _) (.cells #[.int .i64 y.id, .int .i64 y.fr, .int .i64 y.to, .slice y.A y.n y.c] 35)) k)
            have b2 : Below w.heap.size w w2 := (Ba.out (.cells #[.int .i64 x.a, .int .i64 x.b, .int .i64 x.c, .slice x.A x.n x.m] 41)).trans Hbm.out
            have b3 := fun k => below_drewN (b2.alloc b2.size (.cells #[.int .i64 y.id, .int .i64 y.fr, .int .i64 y.to, .slice y.A y.n y.c] 35)) k
            have K3 := Lib.hid k3
            have B3 := Lib.hid b3
            clear k3 b2 b3
            go_wp2_with fail
            go_quiet (fail)
            go_wp2_with fail
            refine (take_none (w.heap.size + 1) w.heap.size 100 _ 0 _ A' (nl - 1) cl _ x.b _ (K3.out _).ni.ns (by omega) Gone.out).mono ?_
            rintro e w3 ⟨rfl, hb3⟩
            unfold errK
            have b4 : Below w.heap.size w w3 := (B3.out _).trans (hb3.mono (B3.out _).size)
            have b5 := fun ob => b4.alloc b4.size ob
            have B5 := Lib.hid b5
            have K4 := Lib.hid ((K3.out _).below hb3)
            clear hb3 b4 b5
            go_wp2_with fail
            refine (num_err 8 _ (Hg.out.below (B5.out _))).mono ?_
            rintro e w4 ⟨rfl, hb4⟩
            go_wp2_with fail
            go_roundg (n - (i + 1))
            case measure => have := Hk.out; omega
            case rel => exact ⟨i + 1, nl - 1, cl, cS, sl, A', some ⟨SAb, 0, none⟩, _, S, rfl, by omega, by go_num, rfl, Hsl.out, (K4.out.below ((Below.refl _ _).alloc (Nat.le_refl _) _)).below hb4, by omega, by omega, by omega, (B5.out _).trans (hb4.mono (B5.out _).size)⟩
        · rcases first_id x.b l with hno | ⟨j, y, hy, hz, hne⟩
          · have Hno := Lib.hid hno
            clear hno
            go_wp2_with fail
            refine (copy_none (w.heap.size + 1) w.heap.size 100 _ 0 _ A' nl cl l x.b _ (Ka.out _).ni.ns (by omega) Hno.out).mono ?_
            rintro e w2 ⟨rfl, hb2⟩
            unfold errK
            go_wp2_with fail
            go_roundg (n - (i + 1))
            case measure => have := Hk.out; omega
            case rel => exact ⟨i + 1, nl, cl, cS, sl, A', SA, l, S, rfl, by omega, by go_num, rfl, Hsl.out, (Ka.out _).below hb2, by omega, by omega, by omega, (Ba.out _).trans (hb2.mono (Ba.out _).size)⟩
          · obtain ⟨k, hk1, hk2, hk3, hk4⟩ := Kr.out.me y (List.mem_of_getElem? hy)
            have hyb : y.id = x.b := by simpa [byId] using hz
            have hxb : x.b = (k : Int) + 1 := by omega
            have hks : k < sl := by have := (List.getElem?_eq_some_iff.1 hk2).1; have := Hsl.out; omega
            have Hxb := Lib.hid hxb
            have Hk2 := Lib.hid hk2
            have hcp := Kp.copyIt _ (w.heap.size + 1) w.heap.size A' SA nl cl cS l S x.b (Ka.out (.cells #[.int .i64 x.a, .int .i64 x.b, .int .i64 x.c, .slice x.A x.n x.m] 41)) j y hy hz hne hk3 hk4 (by omega) (by have := Hsl.out; omega)
            have Hcp := Lib.hid hcp
            clear hy hz hne hk1 hk2 hk3 hk4 hyb hxb hcp
            go_wp2_with fail
            refine Hcp.out.mono ?_
            rintro e w2 ⟨z, vv, rfl, rfl, rfl, A2, cl2, A3, c3', k2, -, hk, hbm⟩
            rw [show ((S.length : Nat) : Int) = (sl : Int) from by rw [Hsl.out]]
            have K2 := Lib.hid k2
            have hpg : wr.heap.size ≠ w.heap.size + 1 := Kr.out.av (Nat.le_refl _) |>.g
            have hpA : some wr.heap.size ≠ A'.map (·.block) := fun e => (Kr.out.av (Nat.le_refl _)).a e.symm
            have XP := (Bx.new wr #[.int .i64 x.a, .int .i64 x.b, .int .i64 x.c, .slice x.A x.n x.m] 41 rfl).keep (hk wr.heap.size (by simp) hpg hpA)
            obtain ⟨p0, p1, p2, p3, -⟩ := XP.c4
            have ow2 : w2.ownsRow (w.heap.size + 1 + 1) 9 1 (.slice SA sl cS) sl (S.map sv) := by rw [Hsl.out]; exact k2.ow
            obtain ⟨SAb, hSA⟩ : ∃ sb, SA = some ⟨sb, 0, none⟩ := by
              rcases ow2.2 with ⟨h', h''⟩ | ⟨g', _, _, h', _⟩
              · omega
              · injection h' with h' _ _
                exact ⟨g', h'⟩
            subst hSA
            have sc : w2.cell? ⟨SAb, k, none⟩ = some (.string ⟨y.d.toArray⟩) := by
              have h1 := ow2.cellAt k (by omega)
              rw [h1, List.getElem?_map, Hk2.out]
              rfl
            have d0 : decide ((0 : Int) < (sl : Int) + 1) = true := decide_eq_true (by omega)
            have d1 : decide (x.b < 1) = false := decide_eq_false (by have := Hxb.out; omega)
            have d2 : decide ((sl : Int) < x.b) = false := decide_eq_false (by have := Hxb.out; omega)
            have d3 : IntKind.i64.wrap (x.b - 1) = (k : Int) := by rw [IntKind.wrap_i64]; have := Hxb.out; omega
            have d4 : IntKind.i64.wrap ((sl : Int) + 1) = (sl : Int) + 1 := by rw [IntKind.wrap_i64]; omega
            have d5 : (k : Int) < sl := by omega
            have d6 : (0 : Int) ≤ k := by omega
            have d7 : (((sl : Int) + 1) != ((sl : Int) + 1)) = false := by simp
            have b2 : Below w.heap.size w w2 := (Ba.out (.cells #[.int .i64 x.a, .int .i64 x.b, .int .i64 x.c, .slice x.A x.n x.m] 41)).trans hbm
            have hlw := K2.out.ni.ns.bx.lt
            have Ow2 := Lib.hid ow2
            have B2 := Lib.hid b2
            clear k2 hk hbm XP ow2 b2
            go_wp2_with (at_builtin; refine wpList_append_any (news := [sv y.d]) _ Tryd.underlying39 str_elem rfl (by omega) rfl rfl rfl (Ow2.out.alloc _) rfl (show Rd (w2.alloc (.cells #[.string ⟨y.d.toArray⟩] 9)) T 1 (some ⟨w2.heap.size, 0, none⟩) 1 [sv y.d] from (Rd.lit (cs := #[.string ⟨y.d.toArray⟩]) rfl).any) (by intro u hu; simp only [List.mem_cons, List.not_mem_nil, or_false] at hu; subst hu; rfl) (by omega) (by simp; omega) rfl rfl ?_; intro A4 c4 w3 hown3 hg3 hat3)
            have b3 := (B2.out.alloc B2.out.size (.cells #[.string ⟨y.d.toArray⟩] 9)).grown hg3 (by simp; have := B2.out.size; omega) (fun q hq => by have := own_lt Ow2.out q hq; omega)
            have K3 := ((K2.out.below ((Below.refl _ _).alloc (Nat.le_refl _) (.cells #[.string ⟨y.d.toArray⟩] 9))).sent (n2 := sl + 1) (by rw [Hsl.out]) hown3 hg3 hat3)
            go_roundg (n - (i + 1))
            case measure => have := Hk.out; omega
            case rel => exact ⟨i + 1, nl + 1, cl2, c4, sl + 1, A2, A4, _, S ++ [y.d], rfl, by omega, by go_num, rfl, by simp [Hsl.out], K3, by omega, by omega, by omega, b3⟩
        · have e3 : (v == 3) = false := by simpa using h3
          have e4 : (v == 4) = false := by simpa using h4
          have e5 : (v == 5) = false := by simpa using h6
          have XPa := Bx.new wr #[.int .i64 x.a, .int .i64 x.b, .int .i64 x.c, .slice x.A x.n x.m] 41 rfl
          have cvx := conv_bytes 22 9 5 Tryd.underlying22 Tryd.underlying5 Tryd.underlying9 (c := x.m) (Hdx.out.alloc (.cells #[.int .i64 x.a, .int .i64 x.b, .int .i64 x.c, .slice x.A x.n x.m] 41))
          have XPa := Lib.hid XPa
          clear h3 h4 h6
          by_cases hok : okP x.b = true ∧ okP x.c = true
          · obtain ⟨hok1, hok2⟩ := hok
            have Hok := Lib.hid (And.intro hok1 hok2)
            clear hok1 hok2
            go_wp2_with (at_builtin; refine wpList_append_any (news := bs x.d) _ Tryd.underlying22 u8_elem rfl (by omega) rfl rfl rfl (World.ownsRow_nil (wr.alloc (.cells #[.int .i64 x.a, .int .i64 x.b, .int .i64 x.c, .slice x.A x.n x.m] 41)) (wr.alloc (.cells #[.int .i64 x.a, .int .i64 x.b, .int .i64 x.c, .slice x.A x.n x.m] 41)).heap.size 5 1) rfl (Hdx.out.alloc _) (bs_one _) (by omega) (Nat.le_refl _) (Nat.zero_add _) (List.nil_append _) ?_; intro A4 c4 w2 hown2 hg2 hat2; have XP2 := XPa.out.grown hg2 (by simp); obtain ⟨p0, p1, p2, p3, -⟩ := XP2.c4)
            have hav : ∀ ob, A4.map (·.block) = some ob → Av (w.heap.size + 1) w.heap.size A' l SA ob := fun ob hob => Kr.out.av (by have := (own_lt hown2 ob hob).1; simp at this; omega)
            have k2 : Kp w2 (w.heap.size + 1) w.heap.size A' nl cl l SA cS S S := (Ka.out (.cells #[.int .i64 x.a, .int .i64 x.b, .int .i64 x.c, .slice x.A x.n x.m] 41)).below (((Below.refl _ _)).grown hg2 (Nat.le_refl _) (by simp))
            have b2 : Below w.heap.size w w2 := (Ba.out (.cells #[.int .i64 x.a, .int .i64 x.b, .int .i64 x.c, .slice x.A x.n x.m] 41)).grown hg2 (Ba.out (.cells #[.int .i64 x.a, .int .i64 x.b, .int .i64 x.c, .slice x.A x.n x.m] 41)).size (by simp)
            refine (Kp.putIt w2 (w.heap.size + 1) w.heap.size A' SA nl cl cS l S x.b x.c A4 x.n c4 x.d k2 Hok.out.1 Hok.out.2 (Rd.of_own hown2).any (by omega) (by omega) (by have := Hsl.out; omega)).mono ?_
            rintro e w3 ⟨z, vv, rfl, rfl, rfl, A2, cl2, A3, c3', k3, hav2, hk, hbm⟩
            rw [show ((S.length : Nat) : Int) = (sl : Int) from by rw [Hsl.out]]
            have o3 : w3.ownsRow (wr.heap.size + 1) 5 1 (.slice A4 x.n c4) x.n (bs x.d) := by
              have h1 : w3.ownsRow (wr.alloc (.cells #[.int .i64 x.a, .int .i64 x.b, .int .i64 x.c, .slice x.A x.n x.m] 41)).heap.size 5 1 (.slice A4 x.n c4) x.n (bs x.d) := own_same hown2 fun q hq => hk q (own_lt hown2 q hq).2 (fun e => (hav q hq).g e) (fun e => (hav q hq).a e.symm)
              simpa using h1
            have K3 := Lib.hid k3
            have O3 := Lib.hid o3
            have B3 := Lib.hid (b2.trans hbm)
            have Hav := Lib.hid (fun ob (hob : A4.map (·.block) = some ob) => hav2 ob (own_lt hown2 ob hob).2 (hav ob hob))
            have d0 : decide ((0 : Int) < (sl : Int) + 1) = true := decide_eq_true (by omega)
            have d4 : IntKind.i64.wrap ((sl : Int) + 1) = (sl : Int) + 1 := by rw [IntKind.wrap_i64]; omega
            have d7 : (((sl : Int) + 1) != ((sl : Int) + 1)) = false := by simp
            clear k2 b2 k3 hav2 hk hbm o3 hav hown2 hg2 hat2 p0 p1 p2 p3
            obtain ⟨wo, rfl⟩ : ∃ wo, wo = wr := ⟨_, rfl⟩
            go_wp2_with fail
            go_loopg [18] x.n (fun q s18 wq => ∃ (k : Nat) (ys : List Value), q = x.n - k ∧ k ≤ x.n ∧ s18 = .int .i64 k ∧ wq.ownsRow (wo.heap.size + 1) 5 1 (.slice A4 x.n c4) x.n ys ∧ Kp wq (w.heap.size + 1) w.heap.size A2 (nl + 1) cl2 (l ++ [⟨(S.length : Int) + 1, x.b, x.c, A3, x.n, c3', x.d⟩]) SA cS S (S ++ [x.d]) ∧ Below w.heap.size w wq)
            case atStart => exact ⟨0, _, by omega, by omega, rfl, O3.out, K3.out, B3.out⟩
            case round =>
              obtain ⟨k, ys, hq, hkn, rfl, hown, hkp, hbq⟩ := hrel
              have Hq := Lib.hid hq
              clear hq
              by_cases hlt2 : k < x.n
              · obtain ⟨ob, hA4⟩ : ∃ ob, A4 = some ⟨ob, 0, none⟩ := by
                  rcases hown.2 with ⟨h', h''⟩ | ⟨g', _, _, h', _⟩
                  · omega
                  · injection h' with h' _ _
                    exact ⟨g', h'⟩
                have hav := Hav.out ob (by rw [hA4]; rfl)
                subst hA4
                have hst := hown.stored k (.int .u8 120)
                obtain ⟨u, hu⟩ := Option.isSome_iff_exists.1 (own_isSome hown k (by have := own_le hown; omega))
                have kf : wr.frozen? ⟨ob, k, none⟩ = false := hown.frozenAt _
                have hlt2I : (k : Int) < x.n := by omega
                have h0k : (0 : Int) ≤ k := by omega
                have hobw : w.heap.size ≤ ob := by have := (own_lt hown ob rfl).1; have := Hb.out.size; omega
                have Hst := Lib.hid hst
                have Kp1 := Lib.hid (hkp.grown hst.2 hav)
                have Bq := Lib.hid (hbq.setCell (p := ⟨ob, k, none⟩) hobw (.int .u8 120))
                clear hst hkp hbq hav hown
                go_wp2_with fail
                go_roundg (x.n - (k + 1))
                case measure => have := Hq.out; omega
                case rel => exact ⟨k + 1, _, rfl, by omega, by go_num, Hst.out.1, Kp1.out, Bq.out⟩
              · have hke : k = x.n := by omega
                subst hke
                have K4 := Lib.hid hkp
                have B4 := Lib.hid hbq
                clear hkp hbq hown
                have ow4 : wr.ownsRow (w.heap.size + 1 + 1) 9 1 (.slice SA sl cS) sl (S.map sv) := by rw [Hsl.out]; exact K4.out.ow
                have hlw := K4.out.ni.ns.bx.lt
                have Ow4 := Lib.hid ow4
                clear ow4
                go_wp2_with (at_builtin; refine wpList_append_any (news := [sv x.d]) _ Tryd.underlying39 str_elem rfl (by omega) rfl rfl rfl (Ow4.out.alloc _) rfl (show Rd (wr.alloc (.cells #[.string ⟨x.d.toArray⟩] 9)) T 1 (some ⟨wr.heap.size, 0, none⟩) 1 [sv x.d] from (Rd.lit (cs := #[.string ⟨x.d.toArray⟩]) rfl).any) (by intro u hu; simp only [List.mem_cons, List.not_mem_nil, or_false] at hu; subst hu; rfl) (by omega) (by simp; omega) rfl rfl ?_; intro A5 c5 w5 hown5 hg5 hat5)
                have b5 := (B4.out.alloc B4.out.size (.cells #[.string ⟨x.d.toArray⟩] 9)).grown hg5 (by simp; have := B4.out.size; omega) (fun q hq => by have := own_lt Ow4.out q hq; omega)
                have K5 := ((K4.out.below ((Below.refl _ _).alloc (Nat.le_refl _) (.cells #[.string ⟨x.d.toArray⟩] 9))).sent (n2 := sl + 1) (by rw [Hsl.out]) hown5 hg5 hat5)
                go_roundg (n - (i + 1))
                case measure => have := Hk.out; omega
                case rel => exact ⟨i + 1, nl + 1, cl2, c5, sl + 1, A2, A5, _, S ++ [x.d], rfl, by omega, by go_num, rfl, by simp [Hsl.out], K5, by omega, by omega, by omega, b5⟩
          · have hbad : okP x.b = false ∨ (okP x.b = true ∧ okP x.c = false) := by
              rcases h1 : okP x.b with _ | _
              · exact .inl rfl
              · exact .inr ⟨rfl, by simpa [h1] using hok⟩
            have Hbad := Lib.hid hbad
            clear hbad hok
            go_wp2_with (at_builtin; refine wpList_append_any (news := bs x.d) _ Tryd.underlying22 u8_elem rfl (by omega) rfl rfl rfl (World.ownsRow_nil (wr.alloc (.cells #[.int .i64 x.a, .int .i64 x.b, .int .i64 x.c, .slice x.A x.n x.m] 41)) (wr.alloc (.cells #[.int .i64 x.a, .int .i64 x.b, .int .i64 x.c, .slice x.A x.n x.m] 41)).heap.size 5 1) rfl (Hdx.out.alloc _) (bs_one _) (by omega) (Nat.le_refl _) (Nat.zero_add _) (List.nil_append _) ?_; intro A4 c4 w2 hown2 hg2 hat2; have XP2 := XPa.out.grown hg2 (by simp); obtain ⟨p0, p1, p2, p3, -⟩ := XP2.c4)
            have hav : ∀ ob, A4.map (·.block) = some ob → Av (w.heap.size + 1) w.heap.size A' l SA ob := fun ob hob => Kr.out.av (by have := (own_lt hown2 ob hob).1; simp at this; omega)
            have k2 : Kp w2 (w.heap.size + 1) w.heap.size A' nl cl l SA cS S S := (Ka.out (.cells #[.int .i64 x.a, .int .i64 x.b, .int .i64 x.c, .slice x.A x.n x.m] 41)).below (((Below.refl _ _)).grown hg2 (Nat.le_refl _) (by simp))
            have b2 : Below w.heap.size w w2 := (Ba.out (.cells #[.int .i64 x.a, .int .i64 x.b, .int .i64 x.c, .slice x.A x.n x.m] 41)).grown hg2 (Ba.out (.cells #[.int .i64 x.a, .int .i64 x.b, .int .i64 x.c, .slice x.A x.n x.m] 41)).size (by simp)
            refine (put_bad (w.heap.size + 1) x.b x.c _ w2 Hbad.out).mono ?_
            rintro e w3 ⟨rfl, hb3⟩
            unfold errK
            have o3 : w3.ownsRow (wr.heap.size + 1) 5 1 (.slice A4 x.n c4) x.n (bs x.d) := by
              have h1 := own_below hown2 hb3
              simpa using h1
            have K3 := Lib.hid (k2.below hb3)
            have O3 := Lib.hid o3
            have B3 := Lib.hid (b2.trans (hb3.mono b2.size))
            have Hav := Lib.hid hav
            clear k2 b2 hb3 o3 hav hown2 hg2 hat2 p0 p1 p2 p3
            obtain ⟨wo, rfl⟩ : ∃ wo, wo = wr := ⟨_, rfl⟩
            go_wp2_with fail
            go_loopg [18] x.n (fun q s18 wq => ∃ (k : Nat) (ys : List Value), q = x.n - k ∧ k ≤ x.n ∧ s18 = .int .i64 k ∧ wq.ownsRow (wo.heap.size + 1) 5 1 (.slice A4 x.n c4) x.n ys ∧ Kp wq (w.heap.size + 1) w.heap.size A' nl cl l SA cS S S ∧ Below w.heap.size w wq)
            case atStart => exact ⟨0, _, by omega, by omega, rfl, O3.out, K3.out, B3.out⟩
            case round =>
              obtain ⟨k, ys, hq, hkn, rfl, hown, hkp, hbq⟩ := hrel
              have Hq := Lib.hid hq
              clear hq
              by_cases hlt2 : k < x.n
              · obtain ⟨ob, hA4⟩ : ∃ ob, A4 = some ⟨ob, 0, none⟩ := by
                  rcases hown.2 with ⟨h', h''⟩ | ⟨g', _, _, h', _⟩
                  · omega
                  · injection h' with h' _ _
                    exact ⟨g', h'⟩
                have hav := Hav.out ob (by rw [hA4]; rfl)
                subst hA4
                have hst := hown.stored k (.int .u8 120)
                obtain ⟨u, hu⟩ := Option.isSome_iff_exists.1 (own_isSome hown k (by have := own_le hown; omega))
                have kf : wr.frozen? ⟨ob, k, none⟩ = false := hown.frozenAt _
                have hlt2I : (k : Int) < x.n := by omega
                have h0k : (0 : Int) ≤ k := by omega
                have hobw : w.heap.size ≤ ob := by have := (own_lt hown ob rfl).1; have := Hb.out.size; omega
                have Hst := Lib.hid hst
                have Kp1 := Lib.hid (hkp.grown hst.2 hav)
                have Bq := Lib.hid (hbq.setCell (p := ⟨ob, k, none⟩) hobw (.int .u8 120))
                clear hst hkp hbq hav hown
                go_wp2_with fail
                go_roundg (x.n - (k + 1))
                case measure => have := Hq.out; omega
                case rel => exact ⟨k + 1, _, rfl, by omega, by go_num, Hst.out.1, Kp1.out, Bq.out⟩
              · have hke : k = x.n := by omega
                subst hke
                have K4 := Lib.hid hkp
                have B4 := Lib.hid hbq
                clear hkp hbq hown
                go_wp2_with fail
                go_roundg (n - (i + 1))
                case measure => have := Hk.out; omega
                case rel => exact ⟨i + 1, nl, cl, cS, sl, A', SA, l, S, rfl, by omega, by go_num, rfl, Hsl.out, K4.out, by omega, by omega, by omega, B4.out⟩
      · have h5d : (5000 < (x.n : Int)) := by omega
        go_wp2_with fail
        go_roundg (n - (i + 1))
        case measure => have := Hk.out; omega
        case rel => exact ⟨i + 1, nl, cl, cS, sl, A', SA, l, S, rfl, by omega, by go_num, rfl, Hsl.out, Kr.out.below ((Below.refl _ _).alloc (Nat.le_refl _) _), by omega, by omega, by omega, Hb.out.alloc Hb.out.size _⟩
    · have hstop : ¬ ((i : Int) < n) ∨ ((i : Int) < n ∧ (i : Int) = 60) := by omega
      rcases hstop with hs | ⟨hs, hs2⟩
      · go_wp2_with fail
        refine (sure_any _).mono ?_
        rintro e w2 ⟨rfl, hb2⟩
        go_wp2_with fail
        go_ret
        exact ⟨rfl, Hb.out.trans (hb2.mono Hb.out.size)⟩
      · obtain rfl : i = 60 := by omega
        go_wp2_with fail
        refine (sure_any _).mono ?_
        rintro e w2 ⟨rfl, hb2⟩
        go_wp2_with fail
        go_ret
        exact ⟨rfl, Hb.out.trans (hb2.mono Hb.out.size)⟩
end Go.Proofs.YtaamdocibbpnkaaDoor
