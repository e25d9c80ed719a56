/- Walk of the law's sure. -/
import Derived.Test.YtijgkejknijplaaDoorTpO
import Derived.Test.YtijgkejknijplaaDoorTpA
import Derived.Test.YtijgkejknijplaaDoorTpS
namespace Go.Proofs.YtijgkejknijplaaDoor
open Go.RowKit
set_option maxRecDepth 100000
set_option linter.unusedVariables false
set_option linter.unusedSimpArgs false
theorem convB (w : World) (C : Array Value) (n c : Nat) : (convert 22 22 (.slice (some ⟨w.heap.size, 0, none⟩) n c)).run Tryd.prog (w.alloc (.cells C 5)) = .ok (.slice (some ⟨w.heap.size, 0, none⟩) n c) (w.alloc (.cells C 5 (C.size, C.size + 1))) := Lib.run_convert_bytes_const w 22 5 C n c Tryd.underlying22 Tryd.underlying5
attribute [local go_sem] convB
def sb : List UInt8 := [97, 98, 99, 100, 101]
def st0 : Tp := ⟨25, 5, 5, 0, 0⟩
def sD : Dk := (st0.append (Dk.make 30) sb).2.1
theorem s_rec0 : recs (Dk.make 30).now 5 25 = ([], 5, false) := recs_end rfl
theorem s_app : st0.append (Dk.make 30) sb = (⟨25, 5, 15, 1, 0⟩, sD, 0) := by rfl
theorem s_off : sD.off = false := by rfl
theorem s_rec1 : recs sD.now 5 25 = ([sb], 15, false) := by
  have h := recs_put (l := (Dk.make 30).now) (t := st0) (b := sb) (rs := []) (recs_end rfl) (by decide) (by decide) (by decide)
  exact h
theorem BR.len {W : World} {ok : Nat → Prop} {A : Option Addr} {n : Nat} {rows : List Br} (h : BR W ok A n rows) : rows.length = n := h.1.flen brcell_len (by omega)
theorem BR.t {W : World} {ok : Nat → Prop} {A : Option Addr} {n : Nat} {rows : List Br} (h : BR W ok A n rows) : Rd W T 1 A n (flat brcell rows) := h.1.any
set_option maxHeartbeats 3200000 in
theorem sure_any (w : World) : Calls Tryd.prog 7 #[] w (YesPost w) := by
  have hnew : Calls Tryd.prog 8 #[.int .i64 30] w (NewPost w 30) := new_any 30 (by omega) (by omega) w
  have hng : ¬ BadArea 30 5 20 := by unfold BadArea; omega
  have Hng := Lib.hid hng
  clear hng
  go_enter Tryd.func7, Tryd.ntmps7
  go_wp2_with fail
  refine hnew.mono ?_
  rintro e w1 ⟨L, g, rfl, hx, hL, hb1⟩
  have hop := open_any 5 20 w1 hx (by unfold I64; omega) (by unfold I64; omega)
  have Hop := Lib.hid hop
  have HL := Lib.hid hL
  have Hb1 := Lib.hid hb1
  clear hop hL hb1 hx hnew
  go_wp2_with fail
  refine Hop.out.mono ?_
  rintro e w2 ⟨hb2, ⟨h, -⟩ | ⟨-, h, -⟩ | ⟨-, -, h, -⟩ | ⟨-, -, -, tg, A, m, c, rows, rfl, htw, htd, hbr, hmap, -⟩⟩
  · exact absurd h Hng.out
  · cases h
  · exact absurd h (by rw [show ((5 : Int).toNat) = 5 from rfl, show ((20 : Int).toNat) = 20 from rfl, s_rec0]; decide)
  rw [show ((5 : Int).toNat) = 5 from rfl, show ((20 : Int).toNat) = 20 from rfl] at htd hmap
  rw [s_rec0] at htd hmap
  have hm0 : m = 0 := by
    have h1 := hbr.len
    have h2 := congrArg List.length hmap
    rw [List.length_map] at h2
    rw [← h1, h2]
    rfl
  subst hm0
  have htd' : TDX w2 L tg g st0 (Dk.make 30) 30 := htd
  have hlt := htd'.dx.lt
  have hrm := room_any w2 htd'
  have hr15 : st0.room = 15 := rfl
  rw [hr15] at hrm
  have Htd := Lib.hid htd'
  have Hb2 := Lib.hid hb2
  have Htw := Lib.hid htw
  clear hbr hmap htd htd' hb2 Hop hr15 htw
  go_wp2_with fail
  refine hrm.mono ?_
  rintro e w3 ⟨rfl, k, rfl⟩
  have hbk : Below w2.heap.size w2 (w2.drewN k) := ⟨rfl, rfl, rfl, Nat.le_refl _, fun _ _ => rfl⟩
  have hap := fun ob => append_any (some ⟨w2.heap.size, 0, none⟩) 5 5 sb ((w2.drewN k).alloc ob) (Htd.out.below (hbk.alloc (Nat.le_refl _) ob))
  have hcvk : (convert 22 22 (.slice (some ⟨w2.heap.size, 0, none⟩) 5 5)).run Tryd.prog ((w2.drewN k).alloc (.cells #[.int .u8 97, .int .u8 98, .int .u8 99, .int .u8 100, .int .u8 101] 5)) = .ok (.slice (some ⟨w2.heap.size, 0, none⟩) 5 5) ((w2.drewN k).alloc (.cells #[.int .u8 97, .int .u8 98, .int .u8 99, .int .u8 100, .int .u8 101] 5 (5, 6))) := convB (w2.drewN k) #[.int .u8 97, .int .u8 98, .int .u8 99, .int .u8 100, .int .u8 101] 5 5
  have hrd := Rd.lit (w := w2.drewN k) (cs := #[.int .u8 97, .int .u8 98, .int .u8 99, .int .u8 100, .int .u8 101]) (t := 5) (fr := (5, 6)) (k := 5) rfl
  have hap2 := hap _ hrd.any (by unfold maxLen; omega) (by decide)
  unfold TAPost at hap2
  rw [s_app] at hap2
  have Hap := Lib.hid hap2
  clear hap hrd hap2 hrm
  go_wp2_with fail
  refine Hap.out.mono ?_
  rintro e w4 ⟨rfl, L4, htd4, hl4, hk4⟩
  rw [errD_nil]
  have hrm4 := room_any w4 htd4
  have hr5 : (⟨25, 5, 15, 1, 0⟩ : Tp).room = 5 := rfl
  rw [hr5] at hrm4
  have Htd4 := Lib.hid htd4
  have Hl4 := Lib.hid hl4
  have Hk4 := Lib.hid hk4
  clear htd4 hl4 hk4 Hap hr5
  go_wp2_with fail
  refine hrm4.mono ?_
  rintro e w5 ⟨rfl, k5, rfl⟩
  have hop5 := open_any 5 20 (w4.drewN k5) (Htd4.out.drewN k5).dx (by unfold I64; omega) (by unfold I64; omega)
  have Hop5 := Lib.hid hop5
  clear hop5 hrm4
  go_wp2_with fail
  refine Hop5.out.mono ?_
  rintro e w6 ⟨hb6, ⟨h, -⟩ | ⟨-, h, -⟩ | ⟨-, -, h, -⟩ | ⟨-, -, -, tg6, A6, m6, c6, rows6, rfl, htw6, htd6, hbr6, hmap6, -⟩⟩
  · exact absurd h Hng.out
  · exact absurd h (by rw [s_off]; decide)
  · exact absurd h (by rw [show ((5 : Int).toNat) = 5 from rfl, show ((20 : Int).toNat) = 20 from rfl, s_rec1]; decide)
  rw [show ((5 : Int).toNat) = 5 from rfl, show ((20 : Int).toNat) = 20 from rfl] at htd6 hmap6
  rw [s_rec1] at htd6 hmap6
  have hm1 : m6 = 1 := by
    have h1 := hbr6.len
    have h2 := congrArg List.length hmap6
    rw [List.length_map] at h2
    rw [← h1, h2]
    rfl
  subst hm1
  obtain ⟨b6, o6, x6, rfl, -, hlt6, hx6, q6⟩ := br_cells hbr6.t (j := 0) (by omega)
  have hd6 := (hbr6.2 x6 (List.mem_of_getElem? hx6)).1
  have hxd : x6.d = sb := by
    have := congrArg (fun l => l[0]?) hmap6
    simp only [List.getElem?_map, hx6, Option.map_some, List.getElem?_cons_zero, Option.some.injEq] at this
    exact this
  rw [hxd] at hd6
  have hcv := conv_bytes (P := Tryd.prog) (c := x6.m) 22 9 5 Tryd.underlying22 Tryd.underlying5 Tryd.underlying9 hd6
  have hln := len_any w6 htd6
  rw [Nat.add_zero] at q6
  have hbe : Below w.heap.size w w6 := by
    have a1 := Hb1.out.trans (Hb2.out.mono Hb1.out.size)
    have hk := Hk4.out
    have hw2s := a1.size
    have a2 : Below w.heap.size w w4 := a1.trans ⟨hk.os, hk.tape, hk.output, Nat.le_trans (by simp) hk.size, fun i hi => ?_⟩
    · exact a2.trans ((show Below w.heap.size w4 (w4.drewN k5) from ⟨rfl, rfl, rfl, Nat.le_refl _, fun _ _ => rfl⟩).trans (hb6.mono a2.size))
    · refine (hk.block i (by simp; omega) fun hu => ?_).trans (Below.heap_alloc _ _ i (by show i < w2.heap.size; omega))
      rcases hu with hu | hu
      · have := HL.out i hu
        omega
      · have := Htw.out
        have := Hb1.out.size
        omega
  have Hbe := Lib.hid hbe
  clear hbe hbr6 hmap6 hd6 hxd hx6 htd6 hb6 Hop5 hlt6
  go_wp2_with fail
  refine hln.mono ?_
  rintro e w7 ⟨rfl, rfl⟩
  go_wp2_with fail
  go_ret
  exact ⟨rfl, Hbe.out⟩
end Go.Proofs.YtijgkejknijplaaDoor
