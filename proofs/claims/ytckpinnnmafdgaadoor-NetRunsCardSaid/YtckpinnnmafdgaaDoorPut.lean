/- Walk of net's Put. -/
import Derived.Test.YtckpinnnmafdgaaDoorNet
import Derived.RegionTactic
import Derived.Deep.DeepCutAuto
namespace Go.Proofs.YtckpinnnmafdgaaDoor
open Go.RowKit
set_option linter.unusedVariables false
set_option linter.unusedSimpArgs false
set_option maxRecDepth 100000
theorem item_elem : Elem Tryd.prog 32 (.agg #[.int .i64 0, .int .i64 0, .int .i64 0, .slice none 0 0]) 4 48 := by unfold Elem; kernel_rfl
/-- On a way that is cut: nothing is put. -/
def PutNo (W : World) (g gm : Nat) (lim last : Int) (cnt : Nat) (f : Int → Int → Int) (A : Option Addr) (nl cl : Nat) (xs : List Value) (e : Ending) (w' : World) : Prop :=
  e = .returned (.tuple #[.int .i64 0, .nilIface]) ∧ NS w' g gm lim last cnt f A nl cl xs ∧ Below gm W w'
set_option maxHeartbeats 800000 in
theorem put_no (g gm : Nat) (lim last : Int) (cnt : Nat) (f : Int → Int → Int) (A : Option Addr) (nl cl : Nat) (xs : List Value) (a b : Int) (Ad : Option Addr) (nd cd : Nat) (w : World) (hns : NS w g gm lim last cnt f A nl cl xs) (a1 : 1 ≤ a) (a2 : a ≤ 1000) (b1 : 1 ≤ b) (b2 : b ≤ 1000) (hd : (nd : Int) ≤ 1048576) (hf : 0 < f (min a b) (max a b)) :
    Calls Tryd.prog 5 #[.pointer (some ⟨g, 0, none⟩), .int .i64 a, .int .i64 b, .slice Ad nd cd] w (PutNo w g gm lim last cnt f A nl cl xs) := by
  have k3 : w.cell? ⟨g, 3, none⟩ = some (.map (some gm)) := hns.bx.c 3
  have i1 : I64 (min a b) := by unfold I64; omega
  have i2 : I64 (max a b) := by unfold I64; omega
  have hlt := hns.mp.lt
  have Hns := Lib.hid hns
  have hlook := fun w2 (hb : Below w.drew.heap.size w.drew w2) => (hns.mp.drew.below hb).look i1 i2
  have Hlook := Lib.hid hlook
  generalize f (min a b) (max a b) = z at hf Hlook
  have k3d : w.drew.cell? ⟨g, 3, none⟩ = some (.map (some gm)) := k3
  clear hns i1 i2 hlook
  go_enter Tryd.func5, Tryd.ntmps5
  go_wp2_with fail
  refine (place_yes a _ a1 a2).mono ?_
  rintro e w' ⟨rfl, rfl⟩
  go_wp2_with fail
  refine (place_yes b _ b1 b2).mono ?_
  rintro e w' ⟨rfl, rfl⟩
  go_wp2_with fail
  go_region_with (first | (go_at_call 22; refine (way_any a b _).mono ?_; rintro e w2 ⟨rfl, hb⟩; have k3' : w2.cell? ⟨g, 3, none⟩ = some (.map (some gm)) := (Hns.out.bx.drew.below hb).c 3; have hrun := Hlook.out w2 hb; unfold key2 at hrun))
  all_goals
    go_wp2_with fail
    go_ret2
    have hb' : Below w.heap.size w w2 := ((Below.refl _ _).drew).trans hb
    exact ⟨rfl, Hns.out.below hb', hb'.mono (by omega)⟩
theorem Rd.blit {w : World} {cs : Array Value} {t : TypeId} {fr : Nat × Nat} {k : Nat} (hk : cs.size = k) : Rd (w.alloc (.cells cs t fr)) (w.heap.size ≤ ·) k (some ⟨w.heap.size, 0, none⟩) 1 cs.toList := by
  refine ⟨by simpa using hk, fun _ => ⟨_, rfl, Nat.le_refl _, fun j u hu => ?_⟩⟩
  exact World.news_of_block (heap_alloc_new w _) j u hu
theorem own_mono {w : World} {B B' e size n : Nat} {v : Value} {xs : List Value} (h : w.ownsRow B e size v n xs) (hb : B' ≤ B) : w.ownsRow B' e size v n xs := by
  refine ⟨h.1, ?_⟩
  rcases h.2 with hn | ⟨g, cap, cur, hv, hg, rest⟩
  · exact .inl hn
  · exact .inr ⟨g, cap, cur, hv, by omega, rest⟩
theorem own_far {w : World} {B e size n c : Nat} {A : Option Addr} {xs : List Value} (h : w.ownsRow B e size (.slice A n c) n xs) {b i : Nat} (hb : b < B) (u : Value) : (w.setCell ⟨b, i, none⟩ u).ownsRow B e size (.slice A n c) n xs := by
  refine h.kept (row := some b) ⟨rfl, rfl, rfl, by simp [World.setCell], fun k _ hk => Below.heap_setCell _ _ _ k (fun e => hk (by rw [e]))⟩ ?_
  rcases A with _ | a
  · exact .inl rfl
  · right
    intro e
    have := (own_lt h a.block rfl).1
    have e' : some a.block = some b := e
    injection e' with e'
    omega
section
variable {W W' : World} {g gm : Nat} {lim last : Int} {cnt : Nat} {f : Int → Int → Int} {A : Option Addr} {nl cl : Nat} {xs : List Value}
theorem NS.setLast (h : NS W g gm lim last cnt f A nl cl xs) (z : Int) : NS (W.setCell ⟨g, 1, none⟩ (.int .i64 z)) g gm lim z cnt f A nl cl xs :=
  ⟨h.bx.set 1 _, own_far h.own (by omega) _, h.mp.far (by have := h.gg; show gm ≠ g; omega) _, h.gg⟩
theorem NS.items {A' : Option Addr} {nl' cl' : Nat} {xs' : List Value} (h : NS W g gm lim last cnt f A nl cl xs) (hg : W.grownBy W' (A.map (·.block))) (hown : W'.ownsRow (g + 1) 32 4 (.slice A' nl' cl') nl' xs') :
    NS (W'.setCell ⟨g, 2, none⟩ (.slice A' nl' cl')) g gm lim last cnt f A' nl' cl' xs' := by
  have hgg := h.gg
  have hrow := h.ne_row
  exact ⟨(h.bx.grown hg (fun e => by have := hrow g e; omega)).set 2 _, own_far hown (by omega) _, (h.mp.grown hg (fun e => by have := hrow gm e.symm; omega)).far (by show gm ≠ g; omega) _, h.gg⟩
end
/-- What Put makes: the items' row has one more, its data is a row of its own in a new block, and all blocks but the box and the items' row are as they were. -/
def PutNew (W : World) (g gm : Nat) (lim last : Int) (cnt : Nat) (f : Int → Int → Int) (A : Option Addr) (nl : Nat) (xs : List Value) (a b : Int) (nd : Nat) (d : List UInt8) (e : Ending) (w' : World) : Prop :=
  e = .returned (.tuple #[.int .i64 (last + 1), .nilIface]) ∧ (∃ A' cl' A3 c3, NS w' g gm lim (last + 1) cnt f A' (nl + 1) cl' (xs ++ [.int .i64 (last + 1), .int .i64 a, .int .i64 b, .slice A3 nd c3]) ∧ w'.ownsRow W.heap.size 5 1 (.slice A3 nd c3) nd (bs d) ∧ (∀ k, A3.map (·.block) = some k → A'.map (·.block) ≠ some k) ∧ (A'.map (·.block) = A.map (·.block) ∨ ∃ k, A'.map (·.block) = some k ∧ W.heap.size ≤ k) ∧ (∀ k, k < W.heap.size → k ≠ g → some k ≠ A.map (·.block) → w'.heap[k]? = W.heap[k]?)) ∧ Below gm W w'
def PutYes (W : World) (g gm : Nat) (lim last : Int) (cnt : Nat) (f : Int → Int → Int) (nl : Nat) (e : Ending) (w' : World) : Prop :=
  e = .returned (.tuple #[.int .i64 (last + 1), .nilIface]) ∧ (∃ A' cl' xs', NS w' g gm lim (last + 1) cnt f A' (nl + 1) cl' xs') ∧ Below gm W w'
set_option maxHeartbeats 3200000 in
theorem put_new (g gm : Nat) (lim last : Int) (cnt : Nat) (f : Int → Int → Int) (A : Option Addr) (nl cl : Nat) (xs : List Value) (a b : Int) (Ad : Option Addr) (nd cd : Nat) (d : List UInt8) (w : World) (hns : NS w g gm lim last cnt f A nl cl xs) (a1 : 1 ≤ a) (a2 : a ≤ 1000) (b1 : 1 ≤ b) (b2 : b ≤ 1000) (hd : (nd : Int) ≤ 1048576) (hf : f (min a b) (max a b) = 0)
    (hr : Rd w T 1 Ad nd (bs d)) (hnl : (nl : Int) < lim) (hlim : lim ≤ 4096) (l1 : 0 ≤ last) (l2 : last ≤ 1000000) :
    Calls Tryd.prog 5 #[.pointer (some ⟨g, 0, none⟩), .int .i64 a, .int .i64 b, .slice Ad nd cd] w (PutNew w g gm lim last cnt f A nl xs a b nd d) := by
  have k3 : w.cell? ⟨g, 3, none⟩ = some (.map (some gm)) := hns.bx.c 3
  have i1 : I64 (min a b) := by unfold I64; omega
  have i2 : I64 (max a b) := by unfold I64; omega
  have hlt := hns.mp.lt
  have Hns := Lib.hid hns
  have hlook := fun w2 (hb : Below w.drew.heap.size w.drew w2) => (hns.mp.drew.below hb).look i1 i2
  rw [hf] at hlook
  have Hlook := Lib.hid hlook
  have Hr := Lib.hid hr
  have k3d : w.drew.cell? ⟨g, 3, none⟩ = some (.map (some gm)) := k3
  clear hns i1 i2 hlook hf hr
  go_enter Tryd.func5, Tryd.ntmps5
  go_wp2_with fail
  refine (place_yes a _ a1 a2).mono ?_
  rintro e w' ⟨rfl, rfl⟩
  go_wp2_with fail
  refine (place_yes b _ b1 b2).mono ?_
  rintro e w' ⟨rfl, rfl⟩
  go_upto_region 5 with (fail)
  go_cut [29] (fun s29 W => s29 = .bool false ∧ Below w.heap.size w W)
  case first =>
    go_region_with (first | (go_at_call 22; refine (way_any a b _).mono ?_; rintro e w2 ⟨rfl, hb⟩; have k3' : w2.cell? ⟨g, 3, none⟩ = some (.map (some gm)) := (Hns.out.bx.drew.below hb).c 3; have hrun := Hlook.out w2 hb; unfold key2 at hrun))
    all_goals
      go_wp2_with fail
      go_meet
      case rel => exact ⟨rfl, ((Below.refl _ _).drew).trans hb⟩
  case rest =>
    obtain ⟨rfl, hb1⟩ := hcut
    have hn1 := Hns.out.below hb1
    have k0 : wc.cell? ⟨g, 0, none⟩ = some (.int .i64 lim) := hn1.bx.c 0
    have k2 : wc.cell? ⟨g, 2, none⟩ = some (.slice A nl cl) := hn1.bx.c 2
    have Hn1 := Lib.hid hn1
    have Hb1 := Lib.hid hb1
    clear hn1 k3 k3d
    obtain ⟨wq, rfl⟩ : ∃ wq, wq = wc := ⟨_, rfl⟩
    go_upto_region 7 with (fail)
    go_cut [39] (fun s39 W => s39 = .bool false ∧ Below wq.heap.size wq W)
    case first =>
      go_region
      all_goals
        go_wp2_with fail
        go_meet
        case rel => exact ⟨by simp; omega, (Below.refl _ _).drew⟩
    case rest =>
      obtain ⟨rfl, hb2⟩ := hcut
      have hn2 := Hn1.out.below hb2
      have hb3 := Hb1.out.trans (hb2.mono Hb1.out.size)
      have q1 : wc.cell? ⟨g, 1, none⟩ = some (.int .i64 last) := hn2.bx.c 1
      have q1f : wc.frozen? ⟨g, 1, none⟩ = false := hn2.bx.f 1
      have hn3 := hn2.setLast (last + 1)
      obtain ⟨W1, hW1⟩ : ∃ W1, W1 = wc.setCell ⟨g, 1, none⟩ (.int .i64 (last + 1)) := ⟨_, rfl⟩
      rw [← hW1] at hn3
      have hgl := hn2.mp.lt
      have hgg := hn2.gg
      have hz3 := hb3.size
      have hr1 : Rd W1 (fun b => b ≠ g) 1 Ad nd (bs d) := by
        rw [hW1]
        have h1 := (Hr.out.below hb3).off_box hn2.bx (by
          intro i z
          match i with
          | 0 => simp
          | 1 => simp
          | 2 => simp
          | 3 => simp
          | (i + 4) => simp)
        exact (h1.mono fun b hb => hb.2).setCell (by simp) _
      have hk4 : ∀ k, k < w.heap.size → k ≠ g → W1.heap[k]? = w.heap[k]? := by
        intro k hk hkg
        rw [hW1, Below.heap_setCell _ _ _ k (fun e => hkg e)]
        exact hb3.block k hk
      have Hk4 := Lib.hid hk4
      clear hk4
      have hb4 : Below gm w W1 := by rw [hW1]; exact (hb3.mono (by omega)).setCell (by show gm ≤ g; omega) _
      have HW1 := Lib.hid hW1
      have Hn3 := Lib.hid hn3
      have v1 : W1.drew.cell? ⟨g, 1, none⟩ = some (.int .i64 (last + 1)) := hn3.bx.c 1
      have v2 : W1.drew.cell? ⟨g, 2, none⟩ = some (.slice A nl cl) := hn3.bx.c 2
      have hsz : W1.heap.size = wc.heap.size := by rw [hW1]; simp [World.setCell]
      have hown1 := hn3.own
      have Hr1 := Lib.hid hr1
      clear hn2 hn3 hW1 hb2 k0 k2
      go_upto_region 10 with (fail)
      rw [← HW1.out]
      clear q1 q1f
      have hszd : W1.drew.heap.size = W1.heap.size := rfl
      go_region_law (first
        | (rw [if_pos (by rfl)]; go_simp; go_at_call 23; refine (clone_any Ad nd cd (bs d) W1.drew (Hr1.out.drew) (bs_one d) (by omega)).mono ?_; rintro e w3 ⟨A3, c3, rfl, hown3, hb5⟩; have v1' : w3.cell? ⟨g, 1, none⟩ = some (.int .i64 (last + 1)) := (Hn3.out.bx.drew.below hb5).c 1; have v2' : w3.cell? ⟨g, 2, none⟩ = some (.slice A nl cl) := (Hn3.out.bx.drew.below hb5).c 2; have v2a : ∀ ob, (w3.alloc ob).cell? ⟨g, 2, none⟩ = some (.slice A nl cl) := fun ob => ((Hn3.out.bx.drew.below hb5).alloc ob).c 2)
        | (refine step_append_any (news := [.int .i64 (last + 1), .int .i64 a, .int .i64 b, .slice A3 nd c3]) _ Tryd.underlying40 item_elem rfl (by omega) rfl rfl rfl ((own_below hown1.drew hb5).alloc _) rfl (Rd.blit rfl).any (by intro u hu; simp only [List.mem_cons, List.not_mem_nil, or_false] at hu; rcases hu with rfl | rfl | rfl | rfl <;> rfl) (by omega) (by have := hb5.size; simp at this ⊢; omega) rfl rfl ?_; intro A4 c4 w4 hown4 hg4 hat4; have hx4 := (((Hn3.out.bx.drew.below hb5).alloc _).grown hg4 (fun e => by have := Hn3.out.ne_row g e; omega)); have m1 := hx4.c 2; have m2 := hx4.f 2))
      all_goals
        have hx1 : w4.cell? ⟨g, 1, none⟩ = some (.int .i64 (last + 1)) := hx4.c 1
        have hb6 : Below gm w w3 := hb4.trans ((((Below.refl _ _).drew).trans hb5).mono (by omega))
        have hz6 : gm ≤ w3.heap.size := Nat.le_trans (by omega) hb5.size
        go_wp2_with fail
        go_ret2
        have hgA := Hn3.out.ne_row
        have hA1 := own_lt Hn3.out.own
        have hA3 := own_lt hown3
        have hz5 := hb5.size
        have hgw : g < w.heap.size := Hns.out.bx.lt
        refine ⟨rfl, ⟨A4, c4, A3, c3, ((Hn3.out.drew.below hb5).alloc _).items hg4 hown4, own_far (own_mono ((hown3.alloc _).kept hg4 ?_) (by omega)) (by omega) _, ?_, ?_, ?_⟩, ((hb6.alloc hz6 _).grown hg4 (by simp; omega) (fun k hk => by have := Hn3.out.ne_row k hk; omega)).setCell (by show gm ≤ g; omega) _⟩
        · rcases A3 with _ | a3
          · exact .inl rfl
          · right
            intro e
            have h1 := hA3 a3.block rfl
            have h2 := hA1 a3.block e.symm
            omega
        · intro k hk e
          have h1 := hA3 k hk
          rcases hat4 with h4 | h4
          · rw [h4] at e
            have := hA1 k e
            omega
          · rw [h4] at e
            injection e with e
            simp only [World.size_alloc] at e
            omega
        · rcases hat4 with h4 | h4
          · exact .inl h4
          · exact .inr ⟨_, h4, by simp only [World.size_alloc]; omega⟩
        · intro k hk hkg hkA
          rw [Below.heap_setCell _ _ _ k (fun e => hkg e), hg4.block k (by simp only [World.size_alloc]; omega) hkA, Below.heap_alloc _ _ k (by omega), hb5.block k (by omega)]
          exact Hk4.out k hk hkg
/-- The same, in less words. -/
theorem put_yes (g gm : Nat) (lim last : Int) (cnt : Nat) (f : Int → Int → Int) (A : Option Addr) (nl cl : Nat) (xs : List Value) (a b : Int) (Ad : Option Addr) (nd cd : Nat) (d : List UInt8) (w : World) (hns : NS w g gm lim last cnt f A nl cl xs) (a1 : 1 ≤ a) (a2 : a ≤ 1000) (b1 : 1 ≤ b) (b2 : b ≤ 1000) (hd : (nd : Int) ≤ 1048576) (hf : f (min a b) (max a b) = 0)
    (hr : Rd w T 1 Ad nd (bs d)) (hnl : (nl : Int) < lim) (hlim : lim ≤ 4096) (l1 : 0 ≤ last) (l2 : last ≤ 1000000) :
    Calls Tryd.prog 5 #[.pointer (some ⟨g, 0, none⟩), .int .i64 a, .int .i64 b, .slice Ad nd cd] w (PutYes w g gm lim last cnt f nl) := by
  refine (put_new g gm lim last cnt f A nl cl xs a b Ad nd cd d w hns a1 a2 b1 b2 hd hf hr hnl hlim l1 l2).mono ?_
  rintro e w' ⟨rfl, ⟨A', cl', A3, c3, h1, _⟩, hb⟩
  exact ⟨rfl, ⟨A', cl', _, h1⟩, hb⟩
end Go.Proofs.YtckpinnnmafdgaaDoor
