/-
  This text proves plain facts on words of 64 bits: which bit tells that a word is 0, and which that one is less than another. Condition: the words are below 2^64.
-/
namespace Mk
/-! words of 64 bits by their highest bit -/
theorem top_and (x y : Nat) : (x &&& y) / 9223372036854775808 = x / 9223372036854775808 &&& y / 9223372036854775808 := by
  have h := Nat.shiftRight_and_distrib (a := x) (b := y) (i := 63)
  simpa [Nat.shiftRight_eq_div_pow] using h
theorem top_or (x y : Nat) : (x ||| y) / 9223372036854775808 = x / 9223372036854775808 ||| y / 9223372036854775808 := by
  have h := Nat.shiftRight_or_distrib (a := x) (b := y) (i := 63)
  simpa [Nat.shiftRight_eq_div_pow] using h
theorem top_xor (x y : Nat) : (x ^^^ y) / 9223372036854775808 = x / 9223372036854775808 ^^^ y / 9223372036854775808 := by
  have h := Nat.shiftRight_xor_distrib (a := x) (b := y) (i := 63)
  simpa [Nat.shiftRight_eq_div_pow] using h
theorem compl (x : Nat) (h : x < 18446744073709551616) : 18446744073709551615 ^^^ x = 18446744073709551615 - x := by
  apply Nat.eq_of_testBit_eq
  intro i
  have h2 : 18446744073709551615 - x = 2 ^ 64 - (x + 1) := by omega
  rw [h2, Nat.testBit_two_pow_sub_succ h, Nat.testBit_xor]
  have h3 : (18446744073709551615 : Nat) = 2 ^ 64 - 1 := rfl
  rw [h3, Nat.testBit_two_pow_sub_one]
  by_cases hi : i < 64
  · simp [hi]
  · have h4 : (2 : Nat) ^ 64 ≤ 2 ^ i := Nat.pow_le_pow_right (by decide) (Nat.le_of_not_lt hi)
    have : x.testBit i = false := Nat.testBit_lt_two_pow (Nat.lt_of_lt_of_le (show x < 2 ^ 64 from h) h4)
    simp [hi, this]
theorem bit2 (x : Nat) (h : x < 18446744073709551616) : x / 9223372036854775808 = 0 ∨ x / 9223372036854775808 = 1 := by omega
theorem zero_bit (x : Nat) (h : x < 18446744073709551616) :
    (18446744073709551615 ^^^ (x ||| (18446744073709551616 - x) % 18446744073709551616)) / 9223372036854775808 = if x = 0 then 1 else 0 := by
  have h1 : (18446744073709551616 - x) % 18446744073709551616 < 18446744073709551616 := Nat.mod_lt _ (by omega)
  rw [top_xor, top_or]
  by_cases h0 : x = 0
  · subst h0; rfl
  · rw [if_neg h0]
    have h2 : (18446744073709551616 - x) % 18446744073709551616 = 18446744073709551616 - x := Nat.mod_eq_of_lt (by omega)
    rw [h2]
    rcases bit2 x h with e | e
    · have : (18446744073709551616 - x) / 9223372036854775808 = 1 := by omega
      rw [e, this]; rfl
    · rcases bit2 (18446744073709551616 - x) (by omega) with e2 | e2 <;> rw [e, e2] <;> rfl
theorem less_bit (x y : Nat) (hx : x < 18446744073709551616) (hy : y < 18446744073709551616) :
    (((18446744073709551615 ^^^ x) &&& y) ||| ((18446744073709551615 ^^^ (x ^^^ y)) &&& ((x + 18446744073709551616 - y) % 18446744073709551616))) / 9223372036854775808 = if x < y then 1 else 0 := by
  rw [top_or, top_and, top_and, top_xor, top_xor, top_xor]
  have hd : (x + 18446744073709551616 - y) % 18446744073709551616 < 18446744073709551616 := Nat.mod_lt _ (by omega)
  have e0 : 18446744073709551615 / 9223372036854775808 = 1 := rfl
  rw [e0]
  rcases bit2 x hx with a | a <;> rcases bit2 y hy with b | b <;> rw [a, b]
  · by_cases h : x < y
    · have : (x + 18446744073709551616 - y) % 18446744073709551616 / 9223372036854775808 = 1 := by omega
      rw [this, if_pos h]; rfl
    · have : (x + 18446744073709551616 - y) % 18446744073709551616 / 9223372036854775808 = 0 := by omega
      rw [this, if_neg h]; rfl
  · rw [if_pos (by omega)]
    rcases bit2 _ hd with c | c <;> rw [c] <;> rfl
  · rw [if_neg (by omega)]
    rcases bit2 _ hd with c | c <;> rw [c] <;> rfl
  · by_cases h : x < y
    · have : (x + 18446744073709551616 - y) % 18446744073709551616 / 9223372036854775808 = 1 := by omega
      rw [this, if_pos h]; rfl
    · have : (x + 18446744073709551616 - y) % 18446744073709551616 / 9223372036854775808 = 0 := by omega
      rw [this, if_neg h]; rfl
end Mk
