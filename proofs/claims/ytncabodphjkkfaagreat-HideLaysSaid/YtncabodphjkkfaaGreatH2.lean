/- A floor's next place. Conditions: none. -/
import Derived.Test.YtncabodphjkkfaaGreatH1
namespace Go.Proofs.YtncabodphjkkfaaGreat
open Go.RowKit Go.Limbs

/-- The first place with the least floor, and how many places from it on have the same. -/
structure NextAt (xs : List Int) (a n : Nat) : Prop where
  lt : a < xs.length
  le : ∀ j, j < xs.length → xs.getD a 0 ≤ xs.getD j 0
  first : ∀ j, j < a → xs.getD j 0 ≠ xs.getD a 0
  one : 1 ≤ n
  fits : a + n ≤ xs.length
  same : ∀ t, t < n → xs.getD (a + t) 0 = xs.getD a 0
  ends : a + n < xs.length → xs.getD (a + n) 0 ≠ xs.getD a 0

set_option maxHeartbeats 1000000 in
theorem next_any (v : Value) (xs : List Int) (w : World) (hv : Ints w v xs) (hne : 0 < xs.length) :
    Calls Tryz.prog 46 #[v] w fun e w' => ∃ a n : Nat, e = .returned (.tuple #[.int .i64 (a : Int), .int .i64 (n : Int)]) ∧ NextAt xs a n ∧ ∃ q, w' = w.drewN q := by
  have HV := hide hv
  obtain ⟨A, cap, rfl, hcap, hm, hrd⟩ := hv
  obtain ⟨b, off, rfl, hb, hc⟩ := Ints.at hrd hne
  have HC := hide hc
  clear hc
  go_enter Tryz.func46, Tryz.ntmps46
  go_wp2_with fail
  refine (min_any _ xs w HV.out hne).mono ?_
  rintro e w' ⟨m, rfl, hmin, rfl⟩
  have HM := hide hmin
  clear hmin
  go_wp2_with fail
  refine (index_any _ xs m w' HV.out HM.out.1).mono ?_
  rintro e w ⟨a, rfl, ha, hae, hfi, rfl⟩
  have HA := hide hae
  have HF := hide hfi
  clear hae hfi
  go_wp2_with fail
  go_loopw [5] (fun i wr => ∃ (k q : Nat), 1 ≤ k ∧ a + k ≤ xs.length ∧ i = .int .i64 (k : Int) ∧ (∀ t, t < k → xs.getD (a + t) 0 = m) ∧ wr = w.drewN q) (fun i _ => xs.length - (intOf i).toNat)
  case atStart => exact ⟨1, 0, Nat.le_refl _, by omega, rfl, fun t ht => by obtain rfl : t = 0 := by omega
                                                                            exact HA.out, rfl⟩
  case round =>
    obtain ⟨k, q, hk1, hk, rfl, hs, rfl⟩ := hrel
    have HS := hide hs
    clear hs
    by_cases hlt : a + k < xs.length
    · have hc1 := HC.out (a + k) hlt
      have hc2 := HC.out a ha
      rw [HA.out] at hc2
      obtain ⟨x, hx⟩ : ∃ x, xs.getD (a + k) 0 = x := ⟨_, rfl⟩
      rw [hx] at hc1
      have HX := hide hx
      have i1 : ((a : Int) + (k : Int)) < xs.length := by omega
      have i2 : (a : Int) < xs.length := by omega
      have i3 : (0 : Int) ≤ (a : Int) + (k : Int) := by omega
      clear hx
      by_cases hxm : x = m
      · subst hxm
        go_wp2_with fail
        go_quiet (fail)
        go_wp2_with fail
        go_roundw
        case rel =>
          refine ⟨k + 1, _, by omega, by omega, by go_num, ?_, rfl⟩
          intro t ht
          rcases Nat.lt_or_ge t k with h | h
          · exact HS.out t h
          · obtain rfl : t = k := by omega
            exact HX.out
        case measure => simp [intOf]; omega
      · have hd : (x == m) = false := by simp [hxm]
        go_wp2_with fail
        go_quiet (fail)
        go_wp2
        go_ret2
        refine ⟨a, k, rfl, ⟨ha, fun j hj => by rw [HA.out]; exact HM.out.2 j hj, fun j hj => by rw [HA.out]; exact HF.out j hj, hk1, hk, fun t ht => by rw [HA.out]; exact HS.out t ht, fun _ => by rw [HA.out, HX.out]; exact hxm⟩, _, by rw [World.drewN_drewN]⟩
    · have he : a + k = xs.length := by omega
      have hf : decide ((a : Int) + (k : Int) < (xs.length : Int)) = false := by simp; omega
      have HE := hide he
      clear he hlt
      go_wp2_with fail
      go_quiet (fail)
      go_wp2
      go_ret2
      refine ⟨a, k, rfl, ⟨ha, fun j hj => by rw [HA.out]; exact HM.out.2 j hj, fun j hj => by rw [HA.out]; exact HF.out j hj, hk1, hk, fun t ht => by rw [HA.out]; exact HS.out t ht, fun h => by have := HE.out; omega⟩, _, by rw [World.drewN_drewN]⟩

end Go.Proofs.YtncabodphjkkfaaGreat
