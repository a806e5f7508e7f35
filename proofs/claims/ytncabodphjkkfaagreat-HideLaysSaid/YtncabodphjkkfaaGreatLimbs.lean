/- Plain laws of numbers written in digits of 32 bits, the least first. Conditions: none. -/
namespace Go.Limbs

def base : Nat := 4294967296
theorem base_eq : base = 4294967296 := rfl

/-- The value of digits. -/
def val : List Nat → Nat
  | [] => 0
  | x :: xs => x + 4294967296 * val xs

/-- The digits of a number, none of them a leading nought. -/
def limbs (n : Nat) : List Nat :=
  if _h : n = 0 then [] else (n % 4294967296) :: limbs (n / 4294967296)
termination_by n
decreasing_by omega

theorem limbs_zero : limbs 0 = [] := by rw [limbs]; simp
theorem limbs_pos {n : Nat} (h : n ≠ 0) : limbs n = (n % 4294967296) :: limbs (n / 4294967296) := by rw [limbs, dif_neg h]

theorem val_limbs (n : Nat) : val (limbs n) = n := by
  induction n using Nat.strongRecOn with
  | _ n ih =>
    by_cases h : n = 0
    · subst h; rw [limbs_zero]; rfl
    · rw [limbs_pos h, val, ih (n / 4294967296) (by omega)]; omega

theorem limbs_lt (n : Nat) : ∀ z ∈ limbs n, z < 4294967296 := by
  induction n using Nat.strongRecOn with
  | _ n ih =>
    by_cases h : n = 0
    · subst h; rw [limbs_zero]; intro z hz; cases hz
    · rw [limbs_pos h]
      intro z hz
      rcases List.mem_cons.1 hz with rfl | hz
      · omega
      · exact ih _ (by omega) z hz

theorem limbs_eq_nil {n : Nat} : limbs n = [] ↔ n = 0 := by
  constructor
  · intro h
    by_cases h0 : n = 0
    · exact h0
    · rw [limbs_pos h0] at h; cases h
  · rintro rfl; exact limbs_zero

theorem val_append (xs ys : List Nat) : val (xs ++ ys) = val xs + 4294967296 ^ xs.length * val ys := by
  induction xs with
  | nil => simp [val]
  | cons x xs ih =>
    simp only [List.cons_append, val, ih, List.length_cons, Nat.pow_succ]
    rw [Nat.mul_add, Nat.add_assoc, ← Nat.mul_assoc, Nat.mul_comm (4294967296 ^ xs.length) 4294967296]

theorem val_lt (xs : List Nat) (h : ∀ z ∈ xs, z < 4294967296) : val xs < 4294967296 ^ xs.length := by
  induction xs with
  | nil => simp [val]
  | cons x xs ih =>
    have h1 := ih fun z hz => h z (List.mem_cons_of_mem _ hz)
    have h2 := h x (List.mem_cons_self ..)
    simp only [val, List.length_cons, Nat.pow_succ]
    have : 4294967296 * (val xs + 1) ≤ 4294967296 * 4294967296 ^ xs.length := Nat.mul_le_mul_left _ h1
    rw [Nat.mul_comm (4294967296 ^ xs.length)]
    omega

theorem val_zeros (xs : List Nat) (h : ∀ z ∈ xs, z = 0) : val xs = 0 := by
  induction xs with
  | nil => rfl
  | cons x xs ih =>
    rw [val, h x (List.mem_cons_self ..), ih fun z hz => h z (List.mem_cons_of_mem _ hz)]

theorem val_replicate (n : Nat) : val (List.replicate n 0) = 0 := val_zeros _ fun _ hz => (List.mem_replicate.1 hz).2

/-- Digits without a leading nought are the digits of their value. -/
theorem limbs_val (xs : List Nat) (h : ∀ z ∈ xs, z < 4294967296) (hl : xs ≠ [] → xs.getD (xs.length - 1) 0 ≠ 0) : limbs (val xs) = xs := by
  induction xs with
  | nil => exact limbs_zero
  | cons x xs ih =>
    have hx := h x (List.mem_cons_self ..)
    have hne : val (x :: xs) ≠ 0 := by
      intro h0
      have hv : x + 4294967296 * val xs = 0 := h0
      cases xs with
      | nil =>
        have := hl (by simp)
        simp at this; omega
      | cons y ys =>
        have h1 := ih (fun z hz => h z (List.mem_cons_of_mem _ hz)) (fun _ => by have := hl (by simp); simpa using this)
        have : val (y :: ys) = 0 := by omega
        rw [this, limbs_zero] at h1
        cases h1
    rw [limbs_pos hne]
    have e1 : val (x :: xs) % 4294967296 = x := by rw [val]; omega
    have e2 : val (x :: xs) / 4294967296 = val xs := by rw [val]; omega
    rw [e1, e2, ih (fun z hz => h z (List.mem_cons_of_mem _ hz))]
    intro hxs
    have := hl (by simp)
    cases xs with
    | nil => exact absurd rfl hxs
    | cons y ys => simpa using this

/-- The digits of a value are the digits without the leading noughts. -/
theorem limbs_strip (xs : List Nat) (n : Nat) (hn : n ≤ xs.length) (h : ∀ z ∈ xs, z < 4294967296) (h0 : ∀ j, n ≤ j → j < xs.length → xs.getD j 0 = 0)
    (hl : n = 0 ∨ xs.getD (n - 1) 0 ≠ 0) : limbs (val xs) = xs.take n := by
  have hs : val xs = val (xs.take n) := by
    conv => lhs; rw [← List.take_append_drop n xs]
    rw [val_append, val_zeros (xs.drop n), Nat.mul_zero, Nat.add_zero]
    intro z hz
    obtain ⟨j, hj⟩ := List.getElem?_of_mem hz
    rw [List.getElem?_drop] at hj
    have hlt := (List.getElem?_eq_some_iff.1 hj).1
    have := h0 (n + j) (by omega) hlt
    simpa [List.getD, hj] using this
  rw [hs]
  refine limbs_val _ (fun z hz => h z (List.mem_of_mem_take hz)) fun hne => ?_
  rcases hl with rfl | hl
  · simp at hne
  · have hlen : (xs.take n).length = n := by simp; omega
    rw [hlen]
    have hn0 : 0 < n := by
      rcases Nat.eq_zero_or_pos n with h | h
      · subst h; simp at hne
      · exact h
    have : (xs.take n).getD (n - 1) 0 = xs.getD (n - 1) 0 := by
      simp [List.getD, List.getElem?_take_of_lt (show n - 1 < n by omega)]
    rw [this]; exact hl

theorem limbs_length_le {n k : Nat} (h : n < 4294967296 ^ k) : (limbs n).length ≤ k := by
  induction k generalizing n with
  | zero =>
    have : n = 0 := by simpa using h
    subst this; rw [limbs_zero]; simp
  | succ k ih =>
    by_cases h0 : n = 0
    · subst h0; rw [limbs_zero]; simp
    · rw [limbs_pos h0, List.length_cons]
      have : n / 4294967296 < 4294967296 ^ k := by
        rw [Nat.pow_succ] at h
        exact Nat.div_lt_of_lt_mul (by rw [Nat.mul_comm]; exact h)
      have := ih this
      omega

theorem lt_pow_limbs (n : Nat) : n < 4294967296 ^ (limbs n).length := by
  conv => lhs; rw [← val_limbs n]
  exact val_lt _ (limbs_lt n)

theorem limbs_length_mono {a b : Nat} (h : a ≤ b) : (limbs a).length ≤ (limbs b).length := limbs_length_le (Nat.lt_of_le_of_lt h (lt_pow_limbs b))

theorem limbs_length_add (a b : Nat) : (limbs (a + b)).length ≤ max (limbs a).length (limbs b).length + 1 := by
  apply limbs_length_le
  have h1 := lt_pow_limbs a
  have h2 := lt_pow_limbs b
  have e1 : 4294967296 ^ (limbs a).length ≤ 4294967296 ^ (max (limbs a).length (limbs b).length) := Nat.pow_le_pow_right (by omega) (Nat.le_max_left ..)
  have e2 : 4294967296 ^ (limbs b).length ≤ 4294967296 ^ (max (limbs a).length (limbs b).length) := Nat.pow_le_pow_right (by omega) (Nat.le_max_right ..)
  rw [Nat.pow_succ]
  omega

theorem limbs_length_mul (a b : Nat) : (limbs (a * b)).length ≤ (limbs a).length + (limbs b).length := by
  apply limbs_length_le
  have h1 := lt_pow_limbs a
  have h2 := lt_pow_limbs b
  rw [Nat.pow_add]
  exact Nat.mul_lt_mul'' h1 h2

theorem limbs_small {n : Nat} (h0 : n ≠ 0) (h : n < 4294967296) : limbs n = [n] := by
  rw [limbs_pos h0, Nat.mod_eq_of_lt h, Nat.div_eq_of_lt h, limbs_zero]

theorem limbs_last {n : Nat} (h : n ≠ 0) : (limbs n).getD ((limbs n).length - 1) 0 ≠ 0 := by
  induction n using Nat.strongRecOn with
  | _ n ih =>
    rw [limbs_pos h]
    by_cases h1 : n / 4294967296 = 0
    · rw [h1, limbs_zero]; simp; omega
    · have := ih (n / 4294967296) (by omega) h1
      have hne : limbs (n / 4294967296) ≠ [] := fun e => h1 (limbs_eq_nil.1 e)
      cases hl : limbs (n / 4294967296) with
      | nil => exact absurd hl hne
      | cons y ys => rw [hl] at this; simpa using this

end Go.Limbs
