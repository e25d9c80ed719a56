/- A net with its items' data apart, behind Put. -/
import Derived.Test.YtckpinnnmafdgaaDoorTurn
import Derived.Test.YtckpinnnmafdgaaDoorPut
namespace Go.Proofs.YtckpinnnmafdgaaDoor
open Go.RowKit
set_option linter.unusedVariables false
set_option linter.unusedSimpArgs false
set_option maxRecDepth 100000
/-- A row stays where its block stays. -/
theorem own_same {w w' : World} {B e size n c m : Nat} {A : Option Addr} {xs : List Value} (h : w.ownsRow B e size (.slice A n c) m xs) (hs : ∀ k, A.map (·.block) = some k → w'.heap[k]? = w.heap[k]?) : w'.ownsRow B e size (.slice A n c) m xs := by
  refine ⟨h.1, ?_⟩
  rcases h.2 with hn | ⟨g, cap, cur, hv, hb, hg, rest⟩
  · exact .inl hn
  · refine .inr ⟨g, cap, cur, hv, hb, ?_, rest⟩
    injection hv with hv _ _
    rw [hs g (by rw [hv]; rfl)]
    exact hg
theorem NI.made {W : World} {g gm : Nat} {lim last : Int} {cnt : Nat} {f : Int → Int → Int} (h : NS W g gm lim last cnt f none 0 0 []) : NI W g gm lim last cnt f none 0 0 [] :=
  ⟨h, by simp, by simp, .nil⟩
theorem NI.data {W : World} {g gm : Nat} {lim last : Int} {cnt : Nat} {f : Int → Int → Int} {A : Option Addr} {nl cl : Nat} {l : List Ic} (h : NI W g gm lim last cnt f A nl cl l) : ∀ x ∈ l, Rd W T 1 x.A x.n (bs x.d) ∧ x.n ≤ 1048576 :=
  fun x hx => ⟨(Rd.of_own (h.dt x hx).1).any, (h.dt x hx).2⟩
theorem NI.len {W : World} {g gm : Nat} {lim last : Int} {cnt : Nat} {f : Int → Int → Int} {A : Option Addr} {nl cl : Nat} {l : List Ic} (h : NI W g gm lim last cnt f A nl cl l) : l.length = nl := (Rd.of_own h.ns.own).flen icell_len (by omega)
theorem NI.put {W W' : World} {g gm : Nat} {lim last : Int} {cnt : Nat} {f : Int → Int → Int} {A : Option Addr} {nl cl : Nat} {l : List Ic} {a b : Int} {nd : Nat} {d : List UInt8} {e : Ending}
    (h : NI W g gm lim last cnt f A nl cl l) (hnd : nd ≤ 1048576) (hp : PutNew W g gm lim last cnt f A nl (flat icell l) a b nd d e W') :
    ∃ A' cl' A3 c3, e = .returned (.tuple #[.int .i64 (last + 1), .nilIface]) ∧ NI W' g gm lim (last + 1) cnt f A' (nl + 1) cl' (l ++ [⟨last + 1, a, b, A3, nd, c3, d⟩]) ∧ Below gm W W' := by
  obtain ⟨he, ⟨A', cl', A3, c3, hns, hd, hne, hat, hsame⟩, hb⟩ := hp
  have hgl := h.ns.bx.lt
  refine ⟨A', cl', A3, c3, he, ⟨?_, ?_, ?_, ?_⟩, hb⟩
  · rw [flat_append, flat_one]
    exact hns
  · intro x hx
    rcases List.mem_append.1 hx with hx | hx
    · have hd0 := h.dt x hx
      refine ⟨own_same hd0.1 fun k hk => ?_, hd0.2⟩
      have := own_lt hd0.1 k hk
      exact hsame k this.2 (by omega) (fun e => h.sp x hx k hk e.symm)
    · obtain rfl := List.mem_singleton.1 hx
      exact ⟨own_mono hd (by omega), hnd⟩
  · intro x hx k hk
    rcases List.mem_append.1 hx with hx | hx
    · have := own_lt (h.dt x hx).1 k hk
      rcases hat with e1 | ⟨q, e1, hq⟩
      · rw [e1]; exact h.sp x hx k hk
      · rw [e1]; intro e2; injection e2 with e2; omega
    · obtain rfl := List.mem_singleton.1 hx
      exact hne k hk
  · rw [List.pairwise_append]
    refine ⟨h.ds, List.pairwise_singleton _ _, fun x hx y hy k hk => ?_⟩
    obtain rfl := List.mem_singleton.1 hy
    have h1 := own_lt (h.dt x hx).1 k hk
    intro e2
    have h2 := own_lt hd k e2
    omega
end Go.Proofs.YtckpinnnmafdgaaDoor
