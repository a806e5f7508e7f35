/- Plain laws of Knuth's algorithm D: when the guess of a quotient's digit is too great, and that in the end it is at most one too great. Conditions: none. -/
import Derived.Test.YtncabodphjkkfaaGreatLimbs
namespace Go.Limbs

/-- The test strikes: the guess is too great. -/
theorem guess_gt {g v1 v2 rest u2 top P V0 U0 : Nat} (htop : g * v1 + rest = top) (hgt : rest * 4294967296 + u2 < g * v2) (hU : U0 < P) :
    U0 + P * (u2 + 4294967296 * top) < g * (V0 + P * (v2 + 4294967296 * v1)) := by
  have h1 : g * (V0 + P * (v2 + 4294967296 * v1)) = g * V0 + P * (g * v2 + 4294967296 * (g * v1)) := by
    rw [Nat.mul_add, Nat.mul_left_comm g P, Nat.mul_add g, Nat.mul_left_comm g 4294967296]
  have h2 : u2 + 4294967296 * top + 1 ≤ g * v2 + 4294967296 * (g * v1) := by
    generalize g * v1 = a at *; generalize g * v2 = b at *; omega
  have h3 := Nat.mul_le_mul_left P h2
  rw [Nat.mul_add P _ 1, Nat.mul_one] at h3
  rw [h1]
  omega

/-- The test does not strike: the guess is at most one too great. -/
theorem guess_le {g v1 v2 rest u2 top P V0 U0 : Nat} (htop : g * v1 + rest = top) (hle : g * v2 ≤ rest * 4294967296 + u2) (hV : V0 < P) (hg : g ≤ 4294967296) (hv : 1 ≤ v1) :
    (g - 1) * (V0 + P * (v2 + 4294967296 * v1)) ≤ U0 + P * (u2 + 4294967296 * top) := by
  rcases Nat.eq_zero_or_pos g with h0 | h0
  · subst h0; simp
  · obtain ⟨k, rfl⟩ : ∃ k, g = k + 1 := ⟨g - 1, by omega⟩
    rw [Nat.add_sub_cancel]
    have h1 : k * (V0 + P * (v2 + 4294967296 * v1)) = k * V0 + P * (k * v2 + 4294967296 * (k * v1)) := by
      rw [Nat.mul_add, Nat.mul_left_comm k P, Nat.mul_add k, Nat.mul_left_comm k 4294967296]
    have h2 : k * V0 ≤ P * k := by rw [Nat.mul_comm P k]; exact Nat.mul_le_mul_left k (Nat.le_of_lt hV)
    have h3 : k + (k * v2 + 4294967296 * (k * v1)) ≤ u2 + 4294967296 * top := by
      rw [Nat.add_mul, Nat.one_mul] at htop hle
      generalize k * v1 = a at *; generalize k * v2 = b at *
      omega
    have h4 := Nat.mul_le_mul_left P h3
    rw [Nat.mul_add] at h4
    rw [h1]
    omega

/-- The first guess is not too small, and not much too great. -/
theorem guess_ge {g v1 v2 u2 top P V0 U0 : Nat} (htop : top < (g + 1) * v1) (hU : U0 < P) (hu2 : u2 < 4294967296) :
    U0 + P * (u2 + 4294967296 * top) < (g + 1) * (V0 + P * (v2 + 4294967296 * v1)) := by
  have h1 : (g + 1) * (V0 + P * (v2 + 4294967296 * v1)) = (g + 1) * V0 + P * ((g + 1) * v2 + 4294967296 * ((g + 1) * v1)) := by
    rw [Nat.mul_add, Nat.mul_left_comm (g + 1) P, Nat.mul_add (g + 1), Nat.mul_left_comm (g + 1) 4294967296]
  have h2 : u2 + 4294967296 * top + 1 ≤ (g + 1) * v2 + 4294967296 * ((g + 1) * v1) := by
    generalize (g + 1) * v1 = a at *; generalize (g + 1) * v2 = b at *; omega
  have h3 := Nat.mul_le_mul_left P h2
  rw [Nat.mul_add P _ 1, Nat.mul_one] at h3
  rw [h1]
  omega
theorem top_le {u0 u1 u2 v1 v2 P V0 U0 : Nat} (hV : V0 < P) (hv2 : v2 < 4294967296)
    (h : U0 + P * (u2 + 4294967296 * (u0 * 4294967296 + u1)) < (V0 + P * (v2 + 4294967296 * v1)) * 4294967296) : u0 ≤ v1 := by
  rcases Nat.lt_or_ge v1 u0 with hlt | hge
  · exfalso
    have h1 : V0 + P * (v2 + 4294967296 * v1) ≤ P * (4294967296 * u0) := by
      have : P * (v2 + 4294967296 * v1 + 1) ≤ P * (4294967296 * u0) := Nat.mul_le_mul_left P (by omega)
      rw [Nat.mul_add P _ 1] at this
      omega
    have h2 : P * (4294967296 * u0) * 4294967296 ≤ P * (u2 + 4294967296 * (u0 * 4294967296 + u1)) := by
      rw [Nat.mul_assoc P]
      exact Nat.mul_le_mul_left P (by omega)
    have h3 := Nat.mul_le_mul_right 4294967296 h1
    omega
  · exact hge

theorem val_top2 (vs : List Nat) (m : Nat) (h : vs.length = m + 2) : val vs = val (vs.take m) + 4294967296 ^ m * (vs.getD m 0 + 4294967296 * vs.getD (m + 1) 0) := by
  conv => lhs; rw [← List.take_append_drop m vs]
  have hl : (vs.take m).length = m := by simp; omega
  rw [val_append, hl]
  have h1 : vs.drop m = [vs.getD m 0, vs.getD (m + 1) 0] := by
    apply List.ext_getElem?
    intro i
    rw [List.getElem?_drop]
    match i with
    | 0 => simp [List.getD, show m < vs.length by omega]
    | 1 => simp [List.getD, show m + 1 < vs.length by omega]
    | i + 2 => simp; omega
  rw [h1]
  simp only [val, Nat.mul_zero, Nat.add_zero]
theorem val_top3 (us : List Nat) (m : Nat) (h : us.length = m + 3) : val us = val (us.take m) + 4294967296 ^ m * (us.getD m 0 + 4294967296 * (us.getD (m + 2) 0 * 4294967296 + us.getD (m + 1) 0)) := by
  conv => lhs; rw [← List.take_append_drop m us]
  have hl : (us.take m).length = m := by simp; omega
  rw [val_append, hl]
  have h1 : us.drop m = [us.getD m 0, us.getD (m + 1) 0, us.getD (m + 2) 0] := by
    apply List.ext_getElem?
    intro i
    rw [List.getElem?_drop]
    match i with
    | 0 => simp [List.getD, show m < us.length by omega]
    | 1 => simp [List.getD, show m + 1 < us.length by omega]
    | 2 => simp [List.getD, show m + 2 < us.length by omega]
    | i + 3 => simp; omega
  rw [h1]
  simp only [val, Nat.mul_zero, Nat.add_zero]
  congr 3
  omega

/-- Where the guess times the divisor has been taken away and nothing had to be borrowed, it is the digit. -/
theorem digit_exact {U V g q D N : Nat} (hV : 0 < V) (hq : q = U / V) (h1 : q ≤ g) (h2 : g ≤ q + 1) (hU : D < N) (b : Nat) (hb : b ≤ 1) (hD : D + g * V = U + N * b) :
    (b = 0 → g = q ∧ D = U % V) ∧ (b = 1 → g = q + 1 ∧ (D + V) = N + U % V) := by
  have hdm := Nat.div_add_mod U V
  rw [← hq] at hdm
  have hlt := Nat.mod_lt U hV
  have hqv : q * V + U % V = U := by rw [Nat.mul_comm]; exact hdm
  have hgv : g = q ∨ g = q + 1 := by omega
  constructor
  · intro hb0
    subst hb0
    rw [Nat.mul_zero, Nat.add_zero] at hD
    rcases hgv with rfl | rfl
    · exact ⟨rfl, by omega⟩
    · rw [Nat.add_mul, Nat.one_mul] at hD; omega
  · intro hb1
    subst hb1
    rw [Nat.mul_one] at hD
    rcases hgv with rfl | rfl
    · omega
    · rw [Nat.add_mul, Nat.one_mul] at hD
      exact ⟨rfl, by omega⟩

/-- A step of taking away a multiple. -/
theorem take_step {g v t carry borrow u d b2 D W A p : Nat} (ht : t = g * v + carry) (hd : d + t % 4294967296 + borrow = u + 4294967296 * b2) (h : D + g * W = A + p * borrow + p * carry) :
    (D + p * d) + g * (W + p * v) = (A + p * u) + p * 4294967296 * b2 + p * 4294967296 * (t / 4294967296) := by
  have h1 := Nat.mod_add_div t 4294967296
  have h2 : g * (W + p * v) = g * W + p * (g * v) := by rw [Nat.mul_add, Nat.mul_left_comm]
  have h3 : p * d + p * (t % 4294967296) + p * borrow = p * u + p * 4294967296 * b2 := by
    rw [Nat.mul_assoc, ← Nat.mul_add, ← Nat.mul_add, ← Nat.mul_add, hd]
  have h4 : p * (t % 4294967296) + p * 4294967296 * (t / 4294967296) = p * (g * v) + p * carry := by
    rw [Nat.mul_assoc, ← Nat.mul_add, h1, ht, Nat.mul_add]
  omega

section
variable {U V U0 V0 P u0 u1 u2 v1 v2 top q g r : Nat}
theorem k_strike (hU : U = U0 + P * (u2 + 4294967296 * top)) (hV : V = V0 + P * (v2 + 4294967296 * v1)) (hU0 : U0 < P) (hVpos : 0 < V) (hq : U / V = q) (htop : g * v1 + r = top)
    (hgt : r * 4294967296 + u2 < g * v2) : q + 1 ≤ g := by
  have h := guess_gt (V0 := V0) (U0 := U0) (P := P) htop hgt hU0
  rw [← hU, ← hV] at h
  have := (Nat.div_lt_iff_lt_mul hVpos).2 h
  omega
theorem k_exit (hU : U = U0 + P * (u2 + 4294967296 * top)) (hV : V = V0 + P * (v2 + 4294967296 * v1)) (hV0 : V0 < P) (hVpos : 0 < V) (hq : U / V = q) (htop : g * v1 + r = top)
    (hle : g * v2 ≤ r * 4294967296 + u2) (hg : g ≤ 4294967296) (hv : 1 ≤ v1) : g ≤ q + 1 := by
  have h := guess_le (V0 := V0) (U0 := U0) (P := P) htop hle hV0 hg hv
  rw [← hU, ← hV] at h
  have := (Nat.le_div_iff_mul_le hVpos).2 h
  omega
theorem k_small (htop : g * v1 + r = top) (hr : 4294967296 ≤ r) (ht : u0 * 4294967296 + u1 = top) (h0 : u0 ≤ v1) (h1 : u1 < 4294967296) : g < 4294967296 := by
  have h : g * v1 < 4294967296 * v1 := by omega
  exact Nat.lt_of_mul_lt_mul_right h
theorem k_prod (hg : g < 4294967296) (hv2 : v2 < 4294967296) : g * v2 ≤ 18446744065119617025 := by
  have : g * v2 ≤ 4294967295 * 4294967295 := Nat.mul_le_mul (by omega) (by omega)
  omega
theorem k_step (htop : g * v1 + r = top) (hg : 1 ≤ g) : (g - 1) * v1 + (r + v1) = top := by
  obtain ⟨k, rfl⟩ : ∃ k, g = k + 1 := ⟨g - 1, by omega⟩
  rw [Nat.add_mul, Nat.one_mul] at htop
  rw [Nat.add_sub_cancel]; omega
end

end Go.Limbs
