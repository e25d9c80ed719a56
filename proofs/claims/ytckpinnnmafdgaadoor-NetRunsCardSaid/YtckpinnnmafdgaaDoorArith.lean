/- Numbers as the walk spells them. -/
import Derived.WalkKit
namespace Go.Proofs.YtckpinnnmafdgaaDoor
open Go.RowKit
theorem u64_wrap (z : Int) : IntKind.u64.wrap z = z % 18446744073709551616 := by
  simp [IntKind.wrap, IntKind.signed, IntKind.bits]
/-- 'int(uint(z) % d)'. -/
theorem uint_mod (z : Int) (d : Nat) (dI : Int) (hdI : dI = d) (h1 : 1 ≤ d) (h2 : d ≤ 1000000) : ∃ K : Nat, K < d ∧ (K : Int) = (z % 18446744073709551616) % d ∧ (IntKind.u64.wrap z).tmod dI = K ∧ wrap64 ((IntKind.u64.wrap z).tmod dI) = K := by
  subst hdI
  have h0 : 0 ≤ z % 18446744073709551616 := Int.emod_nonneg _ (by decide)
  have hd : 0 ≤ (z % 18446744073709551616) % (d : Int) := Int.emod_nonneg _ (by omega)
  have hl : (z % 18446744073709551616) % (d : Int) < d := Int.emod_lt_of_pos _ (by omega)
  have e : (IntKind.u64.wrap z).tmod (d : Int) = (((z % 18446744073709551616) % (d : Int)).toNat : Int) := by
    rw [u64_wrap, Int.tmod_eq_emod_of_nonneg h0, Int.toNat_of_nonneg hd]
  have e2 : wrap64 ((((z % 18446744073709551616) % (d : Int)).toNat : Nat) : Int) = (((z % 18446744073709551616) % (d : Int)).toNat : Int) := IntWalk.wrap64_in _ ⟨by omega, by omega⟩
  exact ⟨((z % 18446744073709551616) % (d : Int)).toNat, by omega, by omega, e, by rw [e, e2]⟩
/-- '1 + int(uint(z) % d)'. -/
theorem one_uint_mod (z : Int) (d : Nat) (dI : Int) (hdI : dI = d) (h1 : 1 ≤ d) (h2 : d ≤ 1000000) : ∃ K : Nat, 1 ≤ K ∧ K ≤ d ∧ (K : Int) = 1 + (z % 18446744073709551616) % d ∧ wrap64 (1 + wrap64 ((IntKind.u64.wrap z).tmod dI)) = K := by
  obtain ⟨K, h3, h4, _, h5⟩ := uint_mod z d dI hdI h1 h2
  refine ⟨1 + K, by omega, by omega, by omega, ?_⟩
  rw [h5, IntWalk.wrap64_in _ ⟨by omega, by omega⟩]
  omega
end Go.Proofs.YtckpinnnmafdgaaDoor
