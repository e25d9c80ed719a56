/- The sum of layer 2 on numbers: one bit, one byte, many bytes. No program here. -/
namespace Go.Proofs.YtbcdanegcknamaaDoor
/-- One bit's step of the register. -/
def bit1 (s : Nat) : Nat := if s % 2 = 1 then (s / 2) ^^^ 2197175160 else s / 2
def bits8 : Nat → Nat → Nat
  | 0, s => s
  | k + 1, s => bit1 (bits8 k s)
/-- One byte's step. -/
def byte1 (s c : Nat) : Nat := bits8 8 (s ^^^ c)
def crc (s : Nat) (l : List UInt8) : Nat := l.foldl (fun s c => byte1 s c.toNat) s
theorem bit1_lt (s : Nat) (h : s < 4294967296) : bit1 s < 4294967296 := by
  unfold bit1
  split
  · exact Nat.xor_lt_two_pow (n := 32) (by omega) (by omega)
  · omega
theorem bits8_lt (k s : Nat) (h : s < 4294967296) : bits8 k s < 4294967296 := by
  induction k with
  | zero => exact h
  | succ k ih => exact bit1_lt _ ih
theorem byte1_lt (s c : Nat) (h : s < 4294967296) (hc : c < 256) : byte1 s c < 4294967296 :=
  bits8_lt _ _ (Nat.xor_lt_two_pow (n := 32) (by omega) (by omega))
theorem crc_lt (l : List UInt8) : ∀ s, s < 4294967296 → crc s l < 4294967296 := by
  induction l with
  | nil => intro s h; exact h
  | cons c l ih => intro s h; exact ih _ (byte1_lt s _ h (by have := c.toNat_lt; omega))
theorem crc_append (s : Nat) (a b : List UInt8) : crc s (a ++ b) = crc (crc s a) b := by simp [crc]
theorem crc_snoc (s : Nat) (a : List UInt8) (c : UInt8) : crc s (a ++ [c]) = byte1 (crc s a) c.toNat := by simp [crc]
/-- A complement of 32 bits. -/
def not32 (s : Nat) : Nat := 4294967295 - s
/-- The sum. -/
def sumOf (l : List UInt8) : Nat := not32 (crc 4294967295 l)
theorem not32_lt (s : Nat) : not32 s < 4294967296 := by unfold not32; omega
theorem not32_not32 (s : Nat) (h : s < 4294967296) : not32 (not32 s) = s := by unfold not32; omega
theorem sumOf_lt (l : List UInt8) : sumOf l < 4294967296 := not32_lt _
theorem xor_div2 (a b : Nat) : (a ^^^ b) / 2 = (a / 2) ^^^ (b / 2) := by
  have := Nat.shiftRight_xor_distrib (a := a) (b := b) (i := 1)
  simpa [Nat.shiftRight_eq_div_pow] using this
theorem xor_mod2 (a b : Nat) : (a ^^^ b) % 2 = (a % 2 + b % 2) % 2 := by
  have h := Nat.xor_mod_two_pow (a := a) (b := b) (n := 1)
  simp only [Nat.pow_one] at h
  rw [h]
  have h1 : a % 2 = 0 ∨ a % 2 = 1 := by omega
  have h2 : b % 2 = 0 ∨ b % 2 = 1 := by omega
  rcases h1 with h1 | h1 <;> rcases h2 with h2 | h2 <;> rw [h1, h2] <;> rfl
/-- The reference's bit: the register without the byte's bits in it. -/
def refBit (r b : Nat) : Nat := if r % 2 ≠ b then (r / 2) ^^^ 2197175160 else r / 2
def refBits (c : Nat) : Nat → Nat → Nat
  | 0, r => r
  | k + 1, r => refBit (refBits c k r) (c / 2 ^ k % 2)
theorem refBits_eq (c r k : Nat) : bits8 k (r ^^^ c) = refBits c k r ^^^ (c / 2 ^ k) := by
  induction k with
  | zero => simp [bits8, refBits]
  | succ k ih =>
    have hd : c / 2 ^ k / 2 = c / 2 ^ (k + 1) := by rw [Nat.div_div_eq_div_mul, Nat.pow_succ]
    simp only [bits8, refBits, ih]
    generalize refBits c k r = x
    unfold bit1 refBit
    have hm := xor_mod2 x (c / 2 ^ k)
    have hv := xor_div2 x (c / 2 ^ k)
    rw [hd] at hv
    have h1 : x % 2 = 0 ∨ x % 2 = 1 := by omega
    have h2 : c / 2 ^ k % 2 = 0 ∨ c / 2 ^ k % 2 = 1 := by omega
    by_cases h : x % 2 = c / 2 ^ k % 2
    · rw [if_neg (by omega), if_neg (by omega), hv]
    · rw [if_pos (by omega), if_pos (by omega), hv, Nat.xor_assoc, Nat.xor_comm (c / 2 ^ (k + 1)), ← Nat.xor_assoc]
theorem refByte (r c : Nat) (hc : c < 256) : refBits c 8 r = byte1 r c := by
  have h := refBits_eq c r 8
  rw [Nat.div_eq_of_lt (by simpa using hc), Nat.xor_zero] at h
  exact h.symm
theorem refBits_lt (c r k : Nat) (h : r < 4294967296) : refBits c k r < 4294967296 := by
  induction k with
  | zero => exact h
  | succ k ih =>
    simp only [refBits]
    unfold refBit
    split
    · exact Nat.xor_lt_two_pow (n := 32) (by omega) (by omega)
    · omega

/-- A sum's four bytes, the lowest first. -/
def tailOf (s : Nat) : List UInt8 := [UInt8.ofNat s, UInt8.ofNat (s / 256), UInt8.ofNat (s / 65536), UInt8.ofNat (s / 16777216)]

/-- What bytes are, opened: the kind, the bytes, the error's number. -/
def openF (b : List UInt8) : UInt8 × List UInt8 × Int :=
  if b.length < 5 then (0, [], 12)
  else if tailOf (sumOf (b.take (b.length - 4))) ≠ b.drop (b.length - 4) then (0, [], 11)
  else if b.getD 0 0 = 0 then (0, [], 1)
  else if 1048576 < b.length - 5 then (0, [], 2)
  else (b.getD 0 0, (b.take (b.length - 4)).drop 1, 0)
end Go.Proofs.YtbcdanegcknamaaDoor
