/- chunk.Put hands back putR. -/
import Derived.Test.YtcdneioaifmilaaDoorPut
namespace Go.Proofs.YtcdneioaifmilaaDoor
open Go.RowKit
set_option linter.unusedVariables false
set_option linter.unusedSimpArgs false
section
variable (bk key off : Int) (A : Option Addr) (n c : Nat) (hv : List UInt8) (B : Option Addr) (m d : Nat) (p : List UInt8) (last : Bool) (w : World)
   (hr : Rd w T 1 A n (bs hv)) (hp : Rd w T 1 B m (bs p)) (hn : n ≤ 1048576) (hm : m ≤ 1048576)
include hr hp hn hm
theorem put_any : Calls Tryd.prog 10 #[.agg #[.int .i64 bk, .slice A n c], .int .i64 key, .int .i64 off, .slice B m d, .bool last] w (PutPost w (putR bk hv key off p last)) := by
  have hr' := (hr.lt (by omega)).mono (ok' := (· < w.heap.size)) fun _ h => h.2
  have hp' := (hp.lt (by omega)).mono (ok' := (· < w.heap.size)) fun _ h => h.2
  have l1 := hr.blen
  have l2 := hp.blen
  subst l1 l2
  unfold putR
  by_cases hk : key = bk
  · subst hk
    by_cases h0 : off = 0
    · subst h0
      have e : putHave key hv key 0 = [] := by simp [putHave]
      rw [e, if_neg (by simp; omega)]
      have := put_new key key A hv.length c hv B p.length d p last w hr' hp' hn hm p.length (.inr (by simp)) (by omega)
      cases last <;> simpa using this
    · have e : putHave key hv key off = hv := by simp [putHave, h0]
      rw [e]
      by_cases h3 : off = hv.length ∧ (p.length : Int) ≤ 1048576 - hv.length
      · rw [if_neg (by omega)]
        have := put_own key key off A hv.length c hv B p.length d p last w hr' hp' hn hm (hv ++ p).length ⟨by simp, by simpa using h0⟩ (by simp; omega) (by omega) (by simp)
        cases last <;> simpa using this
      · rw [if_pos (by omega)]
        simp only [ne_eq, not_true_eq_false, if_false]
        refine put_refuse key key off A hv.length c hv B p.length d last w hr' hn hm hv.length hv.length (.inl ⟨by simp, by simpa using h0, rfl, rfl⟩) ?_
        by_cases h4 : off = hv.length
        · exact .inr ⟨by simp; omega, by omega⟩
        · exact .inl (by simp; omega)
  · have e : putHave bk hv key off = [] := by simp [putHave, hk]
    rw [e]
    by_cases h0 : off = 0
    · subst h0
      rw [if_neg (by simp; omega)]
      have := put_new bk key A hv.length c hv B p.length d p last w hr' hp' hn hm p.length (.inl (by simpa using hk)) (by omega)
      cases last <;> simpa using this
    · rw [if_pos (by simp; omega), if_pos hk]
      exact put_refuse bk key off A hv.length c hv B p.length d last w hr' hn hm 0 0 (.inr (.inl ⟨by simpa using hk, rfl, rfl⟩)) (.inl (by simpa using h0))
end
end Go.Proofs.YtcdneioaifmilaaDoor
