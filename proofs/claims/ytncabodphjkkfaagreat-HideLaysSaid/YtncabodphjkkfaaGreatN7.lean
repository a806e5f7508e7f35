/- Quotient and remainder of sizes. Conditions: none. -/
import Derived.Test.YtncabodphjkkfaaGreatN6
import Derived.Test.YtncabodphjkkfaaGreatShelf
namespace Go.Proofs.YtncabodphjkkfaaGreat
open Go.RowKit Go.Limbs

theorem underlying108' : Tryz.prog.underlying 108 = some (.slice 163) := Tryz.underlying108

set_option maxHeartbeats 1000000 in
theorem part_less (va vb : Value) (a b : Nat) (w : World) (ha : Mag w va a) (hb : Mag w vb b) (hlt : a < b) (hsz : (limbs a).length ≤ 17592186044416) :
    Calls Tryz.prog 114 #[va, vb] w fun e w' => ∃ q r, e = .returned (.tuple #[q, r]) ∧ Mag w' q (a / b) ∧ Mag w' r (a % b) ∧ Ext w w' := by
  have hcmp := compare_any va vb a b w ha hb
  have e0 : cmpNat a b = -1 := by simp [cmpNat, hlt]
  rw [e0] at hcmp
  have HC := hide hcmp
  obtain ⟨A, ca, rfl, hca, hma, hla, hra⟩ := ha
  clear hcmp e0 hb
  go_enter Tryz.func114, Tryz.ntmps114
  obtain ⟨i0, hi, hz0, hz1, hz2⟩ := info_parts info163
  go_wp2_with (first
    | (go_at_call 136; refine HC.out.mono ?_; rintro e w' ⟨rfl, nq, rfl⟩)
    | (at_builtin; refine App.wpList_append_any _ rfl (.const (.slice none 0 0)) (.tmp 18) 108 rfl w.heap.size 163 i0 (.int .u32 0) 1 4 Tryz.underlying108 hi hz0 hz1 hz2 rfl (by omega) (.slice none 0 0) 0 [] rfl (World.ownsRow_nil _ _ _ _) w.heap.size A (limbs a).length ca ((limbs a).map u32) rfl ((hra.reads 1 _ (by simp) (by omega)).drewN nq) (u32_one _) (by simp only [maxLen]; omega) (by omega) (Nat.le_refl _) ?_; intro v1 w1 hown1 hg1 hat1))
  go_ret2
  simp only [List.nil_append, Nat.zero_add] at hown1
  have E1 : Ext w w1 := (below_drewN (Below.refl _ _) nq).grown hg1 (Nat.le_refl _) (by simp [Value.ownBlock])
  refine ⟨_, _, rfl, ?_, ?_, E1⟩
  · rw [Nat.div_eq_of_lt hlt]
    exact ⟨none, 0, by rw [limbs_zero]; rfl, by rw [limbs_zero]; simp, by rw [limbs_zero]; simp, limbs_lt _, by rw [limbs_zero]; exact Rd.nil⟩
  · rw [Nat.mod_eq_of_lt hlt]
    exact U32.of_own hown1 hma hla

set_option maxHeartbeats 1000000 in
theorem part_word (va vb : Value) (a b : Nat) (w : World) (ha : Mag w va a) (hb : Mag w vb b) (hle : b ≤ a) (hb0 : 0 < b) (hbs : b < 4294967296) (hsz : (limbs a).length ≤ 17592186044416) :
    Calls Tryz.prog 114 #[va, vb] w fun e w' => ∃ q r, e = .returned (.tuple #[q, r]) ∧ Mag w' q (a / b) ∧ Mag w' r (a % b) ∧ Ext w w' := by
  have hcmp := compare_any va vb a b w ha hb
  obtain ⟨c, hc⟩ : ∃ c, cmpNat a b = c := ⟨_, rfl⟩
  have hc0 : 0 ≤ c := by rw [← hc]; unfold cmpNat; split <;> (try split) <;> omega
  rw [hc] at hcmp
  obtain ⟨r, hr⟩ : ∃ r, a % b = r := ⟨_, rfl⟩
  have hrl : r < b := by rw [← hr]; exact Nat.mod_lt _ hb0
  have hbw := fun W h => byWord_any va a b W h hb0 hbs (by omega)
  rw [hr] at hbw ⊢
  have HA := hide ha
  obtain ⟨B, cb, rfl, hcb, hmb, hlb, hrb⟩ := hb
  rw [limbs_small (by omega) hbs] at hrb hcmp ⊢
  obtain ⟨bb, bo, rfl, hbt, hbc⟩ := hrb (by simp)
  have hc1 : w.cell? ⟨bb, bo, none⟩ = some (.int .u32 (b : Int)) := by have := hbc 0 (by simp); simpa [u32] using this
  have HC := hide hcmp; have HBW := hide hbw
  clear hcmp hc hbw ha hbc hcb hmb hlb hr
  have t0 : (([b].length : Int) == 1) = true := by simp
  go_enter Tryz.func114, Tryz.ntmps114
  go_wp2_with (first
    | (go_at_call 136; refine HC.out.mono ?_; rintro e w' ⟨rfl, nq, rfl⟩)
    | (go_at_call 137; refine (HBW.out _ (by exact HA.out)).mono ?_; rintro e w1 ⟨v', rfl, hq, E1⟩))
  have hU : U32 (w1.alloc (.cells #[.int .u32 (r : Int)] 163)) (.slice (some ⟨w1.heap.size, 0, none⟩) 1 1) [r] := by
    refine ⟨_, 1, rfl, by simp, by simp, by intro z hz; simp at hz; omega, Rd.of_blk (Blk.new _ _ _) 0 _ ?_⟩
    intro j hj
    have : j = 0 := by simpa using hj
    subst this; rfl
  refine (trim_any _ _ _ hU).mono ?_
  rintro e w' ⟨v2, rfl, hm, rfl⟩
  go_wp2_with fail
  go_ret2
  have E2 : Ext w1 (w1.alloc (.cells #[.int .u32 (r : Int)] 163)) := (Below.refl _ _).alloc (Nat.le_refl _) _
  refine ⟨_, _, rfl, hq.ext E2, by simpa [val] using hm, ?_⟩
  exact (Ext.tr (below_drewN (Below.refl _ _) nq) E1).tr E2

theorem bitLen_bounds (x : Nat) (h0 : x ≠ 0) (h : x < 18446744073709551616) : 1 ≤ Lib.bitLen x ∧ 2 ^ (Lib.bitLen x - 1) ≤ x ∧ x < 2 ^ Lib.bitLen x := by
  induction x using Nat.strongRecOn with
  | _ x ih =>
    rw [Lib.bitLen_half x h0 h]
    by_cases h1 : x / 2 = 0
    · have : x = 1 := by omega
      subst this
      have : Lib.bitLen (1 / 2) = 0 := by decide
      rw [this]; decide
    · obtain ⟨a, b, c⟩ := ih (x / 2) (by omega) h1 (by omega)
      obtain ⟨k, hk⟩ : ∃ k, Lib.bitLen (x / 2) = k + 1 := ⟨Lib.bitLen (x / 2) - 1, by omega⟩
      rw [hk] at b c ⊢
      rw [Nat.add_sub_cancel] at b
      refine ⟨by omega, ?_, ?_⟩
      · rw [show 1 + (k + 1) - 1 = k + 1 by omega, Nat.pow_succ]; omega
      · rw [show 1 + (k + 1) = k + 1 + 1 by omega, Nat.pow_succ]; omega

theorem limbs_top (c : Nat) (n : Nat) (h : (limbs c).length = n + 1) : (limbs c).getD n 0 = c / 4294967296 ^ n := by
  have h1 : val (limbs c) / 4294967296 ^ n = val ((limbs c).drop n) := val_div_pow _ (limbs_lt c) n (by omega)
  rw [val_limbs] at h1
  rw [h1, drop_pred _ _ (by omega), List.drop_eq_nil_of_le (by omega)]
  simp [val]

/-- The shift that brings the divisor's highest digit to 2^31 or more. -/
theorem shift_facts (b : Nat) (hb : 4294967296 ≤ b) : ∃ s m : Nat, s < 32 ∧ (limbs b).length = m + 2 ∧ (limbs (b * 2 ^ s)).length = m + 2 ∧ 2147483648 ≤ (limbs (b * 2 ^ s)).getD (m + 1) 0 ∧
    (Lib.bitLen ((limbs b).getD (m + 1) 0) : Int) = 32 - (s : Int) := by
  have hlen : 2 ≤ (limbs b).length := by
    rcases Nat.lt_or_ge 1 (limbs b).length with h | h
    · exact h
    · have h1 := lt_pow_limbs b
      have h2 : (4294967296 : Nat) ^ (limbs b).length ≤ 4294967296 ^ 1 := Nat.pow_le_pow_right (by omega) h
      omega
  obtain ⟨m, hm⟩ : ∃ m, (limbs b).length = m + 2 := ⟨(limbs b).length - 2, by omega⟩
  obtain ⟨x, hx⟩ : ∃ x, (limbs b).getD (m + 1) 0 = x := ⟨_, rfl⟩
  have hx0 : x ≠ 0 := by
    rw [← hx]
    have := limbs_last (n := b) (by omega)
    rwa [hm] at this
  have hxl : x < 4294967296 := by rw [← hx]; exact getD_lt (limbs_lt b) _
  obtain ⟨b1, b2, b3⟩ := bitLen_bounds x hx0 (by omega)
  obtain ⟨k, hk⟩ : ∃ k, Lib.bitLen x = k := ⟨_, rfl⟩
  rw [hk] at b1 b2 b3
  have hk32 : k ≤ 32 := by
    rcases Nat.lt_or_ge 32 k with h | h
    · have : (2 : Nat) ^ 32 ≤ 2 ^ (k - 1) := Nat.pow_le_pow_right (by omega) (by omega)
      omega
    · exact h
  have hp1 : (2 : Nat) ^ (k - 1) * 2 ^ (32 - k) = 2 ^ 31 := by rw [← Nat.pow_add]; congr 1; omega
  have hp2 : (2 : Nat) ^ k * 2 ^ (32 - k) = 2 ^ 32 := by rw [← Nat.pow_add]; congr 1; omega
  have htop := limbs_top b (m + 1) hm
  rw [hx] at htop
  have hpos : 0 < (4294967296 : Nat) ^ (m + 1) := Nat.pow_pos (by omega)
  have hb1 : x * 4294967296 ^ (m + 1) ≤ b := by rw [htop]; exact Nat.div_mul_le_self ..
  have hb2 : b < (x + 1) * 4294967296 ^ (m + 1) := by
    have := Nat.lt_div_mul_add (a := b) hpos
    rw [← htop] at this
    rw [Nat.add_mul, Nat.one_mul]; omega
  have hc1 : 2147483648 * 4294967296 ^ (m + 1) ≤ b * 2 ^ (32 - k) := by
    have h1 : 2 ^ (k - 1) * 2 ^ (32 - k) ≤ x * 2 ^ (32 - k) := Nat.mul_le_mul_right _ b2
    rw [hp1] at h1
    have h2 : x * 2 ^ (32 - k) * 4294967296 ^ (m + 1) ≤ b * 2 ^ (32 - k) := by
      rw [Nat.mul_right_comm]; exact Nat.mul_le_mul_right _ hb1
    exact Nat.le_trans (Nat.mul_le_mul_right _ h1) h2
  have hc2 : b * 2 ^ (32 - k) < 4294967296 ^ (m + 2) := by
    have h1 : b * 2 ^ (32 - k) < (x + 1) * 4294967296 ^ (m + 1) * 2 ^ (32 - k) := Nat.mul_lt_mul_of_pos_right hb2 (Nat.two_pow_pos _)
    have h2 : (x + 1) * 2 ^ (32 - k) ≤ 2 ^ k * 2 ^ (32 - k) := Nat.mul_le_mul_right _ b3
    rw [hp2] at h2
    have h3 : (x + 1) * 4294967296 ^ (m + 1) * 2 ^ (32 - k) ≤ 4294967296 * 4294967296 ^ (m + 1) := by
      rw [Nat.mul_right_comm]; exact Nat.mul_le_mul_right _ h2
    rw [show (4294967296 : Nat) ^ (m + 2) = 4294967296 * 4294967296 ^ (m + 1) by rw [Nat.pow_succ, Nat.mul_comm]]
    omega
  have hl2 : (limbs (b * 2 ^ (32 - k))).length = m + 2 := by
    have h1 := limbs_length_le hc2
    rcases Nat.lt_or_ge (limbs (b * 2 ^ (32 - k))).length (m + 2) with h | h
    · have h2 := lt_pow_limbs (b * 2 ^ (32 - k))
      have h3 : (4294967296 : Nat) ^ (limbs (b * 2 ^ (32 - k))).length ≤ 4294967296 ^ (m + 1) := Nat.pow_le_pow_right (by omega) (by omega)
      omega
    · omega
  refine ⟨32 - k, m, by omega, hm, hl2, ?_, ?_⟩
  · rw [limbs_top _ _ hl2, Nat.le_div_iff_mul_le hpos]; exact hc1
  · rw [hx, hk]; omega

end Go.Proofs.YtncabodphjkkfaaGreat
