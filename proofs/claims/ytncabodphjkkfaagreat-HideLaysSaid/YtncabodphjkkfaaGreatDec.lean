/- Decimal digits, in plain Lean. Conditions: none. -/
namespace Go.Dec

/-- The decimal digits, the least first; none for 0. -/
def decRev (n : Nat) : List Nat := if h : n = 0 then [] else n % 10 :: decRev (n / 10)
termination_by n
decreasing_by omega
theorem decRev_zero : decRev 0 = [] := by rw [decRev]; simp
theorem decRev_pos {n : Nat} (h : n ≠ 0) : decRev n = n % 10 :: decRev (n / 10) := by rw [decRev]; simp [h]
theorem decRev_lt (n : Nat) : ∀ d ∈ decRev n, d < 10 := by
  induction n using Nat.strongRecOn with
  | ind n ih =>
    by_cases h : n = 0
    · subst h; rw [decRev_zero]; simp
    · rw [decRev_pos h]
      intro d hd
      rcases List.mem_cons.1 hd with rfl | hd
      · omega
      · exact ih (n / 10) (by omega) d hd
theorem decRev_length_pow (k : Nat) : ∀ n, n < 10 ^ k → (decRev n).length ≤ k := by
  induction k with
  | zero => intro n h; obtain rfl : n = 0 := by simpa using h
            rw [decRev_zero]; simp
  | succ k ih =>
    intro n h
    by_cases h0 : n = 0
    · subst h0; rw [decRev_zero]; simp
    · rw [decRev_pos h0, List.length_cons]
      have := ih (n / 10) (by rw [Nat.pow_succ] at h; omega)
      omega
/-- The text of a size: '0' for 0, else its digits, the greatest first. -/
def decBytes (n : Nat) : List UInt8 := if n = 0 then [48] else (decRev n).reverse.map fun d => (48 + d).toUInt8

/-- One digit more is written. -/
theorem decRev_step (x r p : Nat) (h : x * (10 * p) + r ≠ 0) : decRev (x * (10 * p) + r) = r % 10 :: decRev (x * p + r / 10) := by
  rw [decRev_pos h]
  have h1 : x * (10 * p) = 10 * (x * p) := by rw [Nat.mul_left_comm]
  rw [h1, Nat.mul_add_mod, Nat.mul_add_div (by omega)]

end Go.Dec
