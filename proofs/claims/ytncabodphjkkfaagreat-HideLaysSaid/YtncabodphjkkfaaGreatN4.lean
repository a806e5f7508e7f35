/- The comparison of sizes, and their division by one digit. Conditions: none. -/
import Derived.Test.YtncabodphjkkfaaGreatN3
import Derived.RegionTactic
import Derived.BigQuiet
import Derived.Deep.QuietTactic
import Derived.BigRegion
import Derived.Test.YtncabodphjkkfaaGreatFlow
namespace Go.Proofs.YtncabodphjkkfaaGreat
open Go.RowKit Go.Limbs

theorem getD_zeros_app (k : Nat) (qs : List Nat) (j : Nat) (h : j < k) : (List.replicate k 0 ++ qs).getD j 0 = 0 := by
  simp [List.getD, List.getElem?_append_left, h]
theorem set_zeros_app (k q : Nat) (qs : List Nat) : (List.replicate (k + 1) 0 ++ qs).set k q = List.replicate k 0 ++ q :: qs := by
  rw [show List.replicate (k + 1) 0 = List.replicate k 0 ++ [0] from List.replicate_succ']
  rw [List.append_assoc, List.set_append_right _ _ (by simp)]
  simp

theorem drop_pred (xs : List Nat) (k : Nat) (h : k < xs.length) : xs.drop k = xs.getD k 0 :: xs.drop (k + 1) := by
  rw [list_getD_eq _ _ h]; exact List.drop_eq_getElem_cons h

set_option maxHeartbeats 1000000 in
theorem byWord_u32 (va : Value) (xs : List Nat) (d : Nat) (w : World) (ha : U32 w va xs) (hd0 : 0 < d) (hd : d < 4294967296) (hsz : xs.length ≤ 35184372088832) :
    Calls Tryz.prog 137 #[va, .int .u32 (d : Int)] w fun e w' => ∃ v', e = .returned (.tuple #[v', .int .u32 ((val xs % d : Nat) : Int)]) ∧ Mag w' v' (val xs / d) ∧ Ext w w' := by
  obtain ⟨A, ca, rfl, hca, hma, hla, hra⟩ := ha
  have hmk := mk_u32 xs.length xs.length rfl (by omega)
  go_enter Tryz.func137, Tryz.ntmps137
  go_wp2_with fail
  go_loopw [7, 8] (fun r i wr => ∃ (k : Nat) (qs : List Nat) (rs : Nat), k ≤ xs.length ∧ i = .int .i64 ((k : Int) - 1) ∧ r = .int .u64 (rs : Int) ∧ rs < d ∧ k + qs.length = xs.length ∧ (∀ z ∈ qs, z < 4294967296) ∧
      val (xs.drop k) = val qs * d + rs ∧ Blk wr w.heap.size 163 (rowL (List.replicate k 0 ++ qs)) ∧ Below w.heap.size w wr) (fun _ i _ => (intOf i + 1).toNat)
  case atStart => exact ⟨xs.length, [], 0, Nat.le_refl _, rfl, rfl, hd0, by simp, by simp, by simp [val], by rw [List.append_nil]; exact Blk.new _ _ _, (Below.refl _ _).alloc (Nat.le_refl _) _⟩
  case round =>
    obtain ⟨k, qs, rs, hk, rfl, rfl, hrs, hql, hqs, hval, hB, hE⟩ := hrel
    by_cases hlt : 0 < k
    · obtain ⟨n, rfl⟩ : ∃ n, k = n + 1 := ⟨k - 1, by omega⟩
      obtain ⟨b, off, rfl, hbt, hc⟩ := U32.at hra (show n < xs.length by omega)
      obtain ⟨x, hx⟩ : ∃ x, xs.getD n 0 = x := ⟨_, rfl⟩
      have hc1 : wr.cell? ⟨b, off + n, none⟩ = some (.int .u32 (x : Int)) := by rw [← hx]; exact (hE.cell (p := ⟨b, off + n, none⟩) hbt.lt).trans (hc n (by omega))
      have hxl : x < 4294967296 := by rw [← hx]; exact getD_lt hla n
      have hcell : wr.cell? ⟨w.heap.size, n, none⟩ = some (.int .u32 ((0 : Nat) : Int)) := by rw [hB.cell, rowL_get (by simp; omega), getD_zeros_app _ _ _ (by omega)]
      have hfr := hB.frozen n
      have en : (((n + 1 : Nat) : Int) - 1) = (n : Int) := by omega
      rw [en]
      have hX := hide hx; have hV := hide hval; have hL := hide hql; have hD := hide hqs
      clear hx hc hval hql hqs en
      have hor : bits .or .u64 ((rs : Int) * 4294967296) (x : Int) = ((rs * 4294967296 + x : Nat) : Int) := by
        have h1 := u64_or_nat (rs * 4294967296) x (by omega) (by omega)
        rw [nat_join 32 (rs * 4294967296) x (by omega) (by omega), Int.natCast_mul] at h1
        exact h1
      obtain ⟨t, ht⟩ : ∃ t, t = rs * 4294967296 + x := ⟨_, rfl⟩
      rw [← ht] at hor
      have hqd : t / d < 4294967296 := by
        rw [Nat.div_lt_iff_lt_mul hd0]
        have : rs * 4294967296 + 4294967296 ≤ d * 4294967296 := by omega
        rw [Nat.mul_comm 4294967296 d]; omega
      have hrd : t % d < d := Nat.mod_lt _ hd0
      have hdm := Nat.div_add_mod t d
      obtain ⟨q, hq⟩ : ∃ q, t / d = q := ⟨_, rfl⟩
      obtain ⟨r, hr⟩ : ∃ r, t % d = r := ⟨_, rfl⟩
      rw [hq] at hqd; rw [hr] at hrd; rw [hq, hr] at hdm
      have eq1 : IntKind.u64.wrap ((t : Int) / (d : Int)) = (q : Int) := by
        rw [← Int.natCast_ediv, hq, IntKind.wrap_u64]; omega
      have eq2 : (q : Int) % 4294967296 = (q : Int) := by omega
      have eq3 : (t : Int) % (d : Int) = (r : Int) := by rw [← Int.natCast_emod, hr]
      have hT := hide ht; have hDM := hide hdm
      clear ht hdm hq hr
      have hset := hB.set_ n (.int .u32 (q : Int))
      rw [rowL_set, set_zeros_app] at hset
      have hE2 := (hE.setCell (p := ⟨w.heap.size, n, none⟩) (Nat.le_refl _) (.int .u32 (q : Int))).drew
      go_wp2_with fail
      go_region
      go_wp2_with fail
      go_roundw
      case rel =>
        refine ⟨n, q :: qs, r, by omega, by go_num, by rw [eq3], hrd, ?_, ?_, ?_, hset, hE2⟩
        · have := hL.out; simp only [List.length_cons]; omega
        · intro z hz
          rcases List.mem_cons.1 hz with rfl | hz
          · exact hqd
          · exact hD.out z hz
        · rw [drop_pred _ _ (by omega), hX.out, val, hV.out, val, Nat.add_mul, Nat.mul_add, Nat.add_comm (q * d), Nat.mul_assoc, Nat.add_assoc, Nat.mul_comm q d, hDM.out, hT.out]
          omega
      case measure => simp [intOf]
    · obtain rfl : k = 0 := by omega
      have hU : U32 wr (.slice (some ⟨w.heap.size, 0, none⟩) xs.length xs.length) qs := by
        refine ⟨_, _, by rw [show qs.length = xs.length by omega], by omega, by omega, hqs, Rd.of_blk hB 0 _ ?_⟩
        intro j hj; simp [rowL]
      have hV := hide hval
      clear hB hval hql hqs
      have e2 : (rs : Int) % 4294967296 = (rs : Int) := by omega
      go_wp2_with (go_at_call 111; refine (trim_any _ _ _ hU).mono ?_; rintro e w' ⟨v', rfl, hmag, rfl⟩)
      go_ret2
      have h := hV.out
      rw [List.drop_zero] at h
      have h1 : val xs / d = val qs := by rw [h, Nat.mul_comm, Nat.mul_add_div hd0, Nat.div_eq_of_lt hrs]; omega
      have h2 : val xs % d = rs := by rw [h, Nat.mul_comm, Nat.mul_add_mod, Nat.mod_eq_of_lt hrs]
      refine ⟨v', ?_, by rw [h1]; exact hmag, hE⟩
      rw [h2]; rfl

theorem byWord_any (va : Value) (a d : Nat) (w : World) (ha : Mag w va a) (hd0 : 0 < d) (hd : d < 4294967296) (hsz : (limbs a).length ≤ 35184372088832) :
    Calls Tryz.prog 137 #[va, .int .u32 (d : Int)] w fun e w' => ∃ v', e = .returned (.tuple #[v', .int .u32 ((a % d : Nat) : Int)]) ∧ Mag w' v' (a / d) ∧ Ext w w' := by
  have := byWord_u32 va _ d w ha hd0 hd hsz
  rwa [val_limbs] at this

/-- How two lists of digits of one length compare. -/
def cmpNat (a b : Nat) : Int := if a < b then -1 else if a = b then 0 else 1

theorem val_split (xs : List Nat) (n : Nat) (h : n < xs.length) : val xs = val (xs.take n) + 4294967296 ^ n * (xs.getD n 0 + 4294967296 * val (xs.drop (n + 1))) := by
  conv => lhs; rw [← List.take_append_drop n xs]
  rw [val_append, drop_pred xs n h, val]
  have : (xs.take n).length = n := by simp; omega
  rw [this]
theorem val_lt_of (xs ys : List Nat) (n : Nat) (hx : n < xs.length) (hy : n < ys.length) (hxs : ∀ z ∈ xs, z < 4294967296) (he : xs.drop (n + 1) = ys.drop (n + 1)) (h : xs.getD n 0 < ys.getD n 0) : val xs < val ys := by
  rw [val_split xs n hx, val_split ys n hy, he]
  have h1 := val_lt (xs.take n) (fun z hz => hxs z (List.mem_of_mem_take hz))
  have h2 : (xs.take n).length = n := by simp; omega
  rw [h2] at h1
  have h3 : 4294967296 ^ n * (xs.getD n 0 + 4294967296 * val (ys.drop (n + 1)) + 1) ≤ 4294967296 ^ n * (ys.getD n 0 + 4294967296 * val (ys.drop (n + 1))) := Nat.mul_le_mul_left _ (by omega)
  rw [Nat.mul_add _ _ 1, Nat.mul_one] at h3
  omega

set_option maxHeartbeats 1000000 in
theorem compare_same (va vb : Value) (xs ys : List Nat) (w : World) (ha : U32 w va xs) (hb : U32 w vb ys) (hlen : xs.length = ys.length) :
    Calls Tryz.prog 136 #[va, vb] w fun e w' => e = .returned (.int .i64 (cmpNat (val xs) (val ys))) ∧ ∃ n, w' = w.drewN n := by
  obtain ⟨A, ca, rfl, hca, hma, hla, hra⟩ := ha
  obtain ⟨B, cb, rfl, hcb, hmb, hlb, hrb⟩ := hb
  obtain ⟨L, hL⟩ : ∃ L, xs.length = L := ⟨_, rfl⟩
  have hL2 : ys.length = L := by omega
  rw [hL] at hca hma ⊢
  rw [hL2] at hcb hmb ⊢
  have hX := hide hL; have hY := hide hL2
  clear hL hL2 hlen
  go_enter Tryz.func136, Tryz.ntmps136
  go_wp2_with fail
  go_loopw [5] (fun i wr => ∃ (k q : Nat), k ≤ L ∧ i = .int .i64 ((k : Int) - 1) ∧ xs.drop k = ys.drop k ∧ wr = w.drewN q) (fun i _ => (intOf i + 1).toNat)
  case atStart => exact ⟨L, 0, Nat.le_refl _, rfl, by rw [List.drop_eq_nil_of_le (by have := hX.out; omega), List.drop_eq_nil_of_le (by have := hY.out; omega)], rfl⟩
  case round =>
    obtain ⟨k, q, hk, rfl, hd, rfl⟩ := hrel
    by_cases hlt : 0 < k
    · obtain ⟨n, rfl⟩ : ∃ n, k = n + 1 := ⟨k - 1, by omega⟩
      obtain ⟨b, off, rfl, hbt, hc⟩ := U32.at hra (show n < xs.length by have := hX.out; omega)
      obtain ⟨b', off', rfl, hbt', hc'⟩ := U32.at hrb (show n < ys.length by have := hY.out; omega)
      obtain ⟨x, hx⟩ : ∃ x, xs.getD n 0 = x := ⟨_, rfl⟩
      obtain ⟨y, hy⟩ : ∃ y, ys.getD n 0 = y := ⟨_, rfl⟩
      have hc1 : w.cell? ⟨b, off + n, none⟩ = some (.int .u32 (x : Int)) := by rw [← hx]; exact hc n (by have := hX.out; omega)
      have hc2 : w.cell? ⟨b', off' + n, none⟩ = some (.int .u32 (y : Int)) := by rw [← hy]; exact hc' n (by have := hY.out; omega)
      have en : (((n + 1 : Nat) : Int) - 1) = (n : Int) := by omega
      rw [en]
      have i1 : (0 : Int) ≤ (n : Int) := by omega
      have i2 : (n : Int) < (L : Int) := by omega
      have HX := hide hx; have HY := hide hy; have HD := hide hd
      clear hx hy hd hc hc' en
      by_cases hxy : x = y
      · have t1 : ((x : Int) != (y : Int)) = false := by subst hxy; simp
        have HE := hide hxy
        clear hxy
        go_wp2_with fail
        go_quiet (fail)
        go_wp2_with fail
        go_roundw
        case rel =>
          refine ⟨n, _, by omega, by go_num, ?_, rfl⟩
          rw [drop_pred xs n (by have := hX.out; omega), drop_pred ys n (by have := hY.out; omega), HX.out, HY.out, HE.out, HD.out]
        case measure => simp [intOf]
      · have t1 : ((x : Int) != (y : Int)) = true := by simp; omega
        have HE := hide hxy
        by_cases hxy2 : x < y
        all_goals
          clear hxy
          go_wp2_with fail
          go_quiet (fail)
          go_wp2_with fail
          go_quiet (fail)
          go_wp2
          go_ret
          refine ⟨ret_int ?_, _, by rw [World.drewN_drewN, World.drewN_drewN]⟩
        · have := val_lt_of xs ys n (by have := hX.out; omega) (by have := hY.out; omega) hla HD.out (by rw [HX.out, HY.out]; exact hxy2)
          simp [cmpNat, this]
        · have := val_lt_of ys xs n (by have := hY.out; omega) (by have := hX.out; omega) hlb HD.out.symm (by rw [HX.out, HY.out]; have := HE.out; omega)
          simp [cmpNat, show ¬ val xs < val ys by omega, show ¬ val xs = val ys by omega]
    · obtain rfl : k = 0 := by omega
      have hd' := hide hd
      clear hd
      go_wp2
      go_ret
      refine ⟨ret_int ?_, _, rfl⟩
      have h := hd'.out
      rw [List.drop_zero, List.drop_zero] at h
      simp [cmpNat, h]

set_option maxHeartbeats 1000000 in
theorem compare_any (va vb : Value) (a b : Nat) (w : World) (ha : Mag w va a) (hb : Mag w vb b) :
    Calls Tryz.prog 136 #[va, vb] w fun e w' => e = .returned (.int .i64 (cmpNat a b)) ∧ ∃ n, w' = w.drewN n := by
  by_cases hlen : (limbs a).length = (limbs b).length
  · have := compare_same va vb _ _ w ha hb hlen
    rwa [val_limbs, val_limbs] at this
  · obtain ⟨A, ca, rfl, hca, hma, hla, hra⟩ := ha
    obtain ⟨B, cb, rfl, hcb, hmb, hlb, hrb⟩ := hb
    have hab : cmpNat a b = if (limbs a).length < (limbs b).length then -1 else 1 := by
      unfold cmpNat
      by_cases h1 : a < b
      · have := limbs_length_mono (Nat.le_of_lt h1)
        simp [h1, show (limbs a).length < (limbs b).length by omega]
      · have := limbs_length_mono (Nat.le_of_not_lt h1)
        have h2 : ¬ a = b := fun e => hlen (by rw [e])
        simp [h1, h2, show ¬ (limbs a).length < (limbs b).length by omega]
    have HA := hide hab
    have t1 : (((limbs a).length : Int) != ((limbs b).length : Int)) = true := by simp; omega
    clear hab hlen
    by_cases hlt : (limbs a).length < (limbs b).length
    all_goals
      go_enter Tryz.func136, Tryz.ntmps136
      go_wp2
      go_ret
      refine ⟨ret_int ?_, 0, rfl⟩
      rw [HA.out]
      simp <;> omega

end Go.Proofs.YtncabodphjkkfaaGreat
