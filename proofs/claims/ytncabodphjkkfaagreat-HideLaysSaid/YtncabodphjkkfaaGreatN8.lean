/- Quotient and remainder of sizes: the long division. Conditions: none. -/
import Derived.Test.YtncabodphjkkfaaGreatN7
import Derived.Test.YtncabodphjkkfaaGreatFlow
import Derived.Shelf.Abstract
import Derived.Test.YtncabodphjkkfaaGreatFlow
import Derived.Shelf.Abstract
import Derived.Test.YtncabodphjkkfaaGreatFlow
import Derived.Shelf.Abstract
import Derived.Test.YtncabodphjkkfaaGreatFlow
import Derived.Shelf.Abstract
import Derived.Test.YtncabodphjkkfaaGreatFlow
import Derived.Shelf.Abstract
import Derived.Test.YtncabodphjkkfaaGreatFlow
import Derived.Shelf.Abstract
namespace Go.Proofs.YtncabodphjkkfaaGreat
open Go.RowKit Go.Limbs Go.Shelf

theorem part_law {V D P S T n m : Nat} (hv : D = P + 4294967296 ^ n * (S + 4294967296 ^ (m + 3) * T)) (hlt : D < V * 4294967296 ^ (n + 1)) (hV : V < 4294967296 ^ (m + 2)) : T = 0 ∧ S < V * 4294967296 := by
  have hp : 0 < (4294967296 : Nat) ^ n := Nat.pow_pos (by omega)
  have h1 : 4294967296 ^ n * (S + 4294967296 ^ (m + 3) * T) < 4294967296 ^ n * (V * 4294967296) := by
    rw [Nat.pow_succ, ← Nat.mul_assoc, Nat.mul_right_comm, Nat.mul_comm (V * 4294967296)] at hlt
    omega
  have h2 := Nat.lt_of_mul_lt_mul_left h1
  have h3 : V * 4294967296 < 4294967296 ^ (m + 3) := by
    rw [show m + 3 = m + 2 + 1 by omega, Nat.pow_succ]
    exact Nat.mul_lt_mul_of_pos_right hV (by omega)
  have hT : T = 0 := by
    rcases Nat.eq_zero_or_pos T with h | h
    · exact h
    · have : 4294967296 ^ (m + 3) * 1 ≤ 4294967296 ^ (m + 3) * T := Nat.mul_le_mul_left _ h
      omega
  refine ⟨hT, ?_⟩
  rw [hT, Nat.mul_zero, Nat.add_zero] at h2
  exact h2
theorem part_eq {V S q Q P n : Nat} (hq : S / V = q) : V * (4294967296 ^ (n + 1) * Q) + (P + 4294967296 ^ n * S) = V * (4294967296 ^ n * (q + 4294967296 * Q)) + (P + 4294967296 ^ n * (S % V)) := by
  have h1 := Nat.div_add_mod S V
  rw [hq] at h1
  have h2 : 4294967296 ^ n * S = V * (4294967296 ^ n * q) + 4294967296 ^ n * (S % V) := by
    conv => lhs; rw [← h1, Nat.mul_add]
    rw [Nat.mul_left_comm]
  have h3 : V * (4294967296 ^ n * (q + 4294967296 * Q)) = V * (4294967296 ^ n * q) + V * (4294967296 ^ (n + 1) * Q) := by
    rw [Nat.mul_add, Nat.mul_add, Nat.pow_succ, Nat.mul_assoc (4294967296 ^ n)]
  omega
theorem part_lt {V S P n : Nat} (hP : P < 4294967296 ^ n) (hV : 0 < V) : P + 4294967296 ^ n * (S % V) < V * 4294967296 ^ n := by
  have h1 := Nat.mod_lt S hV
  have h2 : 4294967296 ^ n * (S % V + 1) ≤ 4294967296 ^ n * V := Nat.mul_le_mul_left _ h1
  rw [Nat.mul_add, Nat.mul_one] at h2
  rw [Nat.mul_comm V]
  omega

set_option maxRecDepth 100000 in
set_option maxHeartbeats 2000000 in
theorem part_long (va vb : Value) (a b : Nat) (w : World) (ha : Mag w va a) (hb : Mag w vb b) (hle : b ≤ a) (hb0 : 4294967296 ≤ b) (hsz : (limbs a).length ≤ 17592186044416) :
    Calls Tryz.prog 114 #[va, vb] w fun e w' => ∃ q r, e = .returned (.tuple #[q, r]) ∧ Mag w' q (a / b) ∧ Mag w' r (a % b) ∧ Ext w w' := by
  obtain ⟨s, m, hs, hlb, hlv, hv1, hbl⟩ := shift_facts b hb0
  have hcmp := compare_any va vb a b w ha hb
  obtain ⟨c, hc⟩ : ∃ c, cmpNat a b = c := ⟨_, rfl⟩
  have hc0 : 0 ≤ c := by rw [← hc]; unfold cmpNat; split <;> (try split) <;> omega
  rw [hc] at hcmp
  have hla2 : m + 2 ≤ (limbs a).length := by rw [← hlb]; exact limbs_length_mono hle
  have HA := hide ha; have HB := hide hb
  obtain ⟨A, ca, rfl, hca, hma, hla, hra⟩ := ha
  obtain ⟨B, cb, rfl, hcb, hmb, hlbb, hrb⟩ := hb
  obtain ⟨la, hlae⟩ : ∃ la, (limbs a).length = la := ⟨_, rfl⟩
  rw [hlae] at hca hma hsz hla2
  rw [hlb] at hcb hmb
  obtain ⟨bb, bo, rfl, hbt, hbc⟩ := U32.at hrb (show m + 1 < (limbs b).length by omega)
  obtain ⟨x, hx⟩ : ∃ x, (limbs b).getD (m + 1) 0 = x := ⟨_, rfl⟩
  have hxl : x < 4294967296 := by rw [← hx]; exact getD_lt hlbb _
  have hc1 : w.cell? ⟨bb, bo + (m + 1), none⟩ = some (.int .u32 (x : Int)) := by rw [← hx]; exact hbc (m + 1) (by omega)
  rw [hx] at hbl
  have hlz := fun W => Tryz.bits_LeadingZeros32 (x : Int) W (by omega) (by omega)
  rw [Int.toNat_natCast, hbl, show (32 : Int) - (32 - (s : Int)) = (s : Int) by omega] at hlz
  have t1 : decide (c < 0) = false := by simp; omega
  obtain ⟨e, he⟩ : ∃ e, la - (m + 2) = e := ⟨_, rfl⟩
  have he2 : la = m + 2 + e := by omega
  have eI : (la : Int) - ((m : Int) + 2) = (e : Int) := by omega
  have t0 : (((m : Int) + 2) == 1) = false := by simp; omega
  rw [hlb] at HB hcmp ⊢
  rw [hlae] at HA hcmp ⊢
  have HC := hide hcmp; have HLZ := hide hlz
  have HE := hide he; have HE2 := hide he2
  clear he he2
  have X1 := hide hlb; have X2 := hide hlv; have X3 := hide hlae; have X4 := hide hv1
  clear hcmp hc hlz hbc hx hbl hlb hlv hlae hv1
  go_enter Tryz.func114, Tryz.ntmps114
  go_wp2_with (first
    | (go_at_call 136; refine HC.out.mono ?_; rintro e w' ⟨rfl, nq, rfl⟩)
    | (go_at_call 138; refine (HLZ.out _).mono ?_; rintro e w' ⟨rfl, rfl⟩))
  have E0 : Ext w (w.drewN nq) := below_drewN (Below.refl _ _) nq
  refine (up_u32 _ (limbs b) s _ (HB.out.ext E0) hs (by rw [X1.out]; omega)).mono ?_
  rintro e w1 ⟨os, g1, hol, rfl, hos, hov, hg1, hB1, E1⟩
  rw [X1.out] at hol ⊢
  have hU1 : U32 w1 (.slice (some ⟨g1, 0, none⟩) (m + 2 + 1) (m + 2 + 1)) os := by
    refine ⟨_, _, by rw [hol], by omega, by omega, hos, Rd.of_blk hB1 0 _ ?_⟩
    intro j hj; simp [rowL]
  have hovv : val os = b * 2 ^ s := by rw [hov, val_limbs]
  have X5 := hide hovv
  clear hol hov hos hB1 hovv hg1
  go_wp2_with fail
  refine (trim_any _ os _ hU1).mono ?_
  rintro e w' ⟨v', rfl, hmv, rfl⟩
  rw [X5.out] at hmv
  go_wp2_with fail
  refine (up_u32 _ (limbs a) s _ ((HA.out.ext E0).ext E1) hs (by rw [X3.out]; omega)).mono ?_
  rintro e w2 ⟨us, gu, hul, rfl, hus, huv, hgu, hB2, E2⟩
  rw [X3.out] at hul ⊢
  have hmv0 := hmv
  obtain ⟨V, cv, rfl, hcv, hmvl, hvl, hrv⟩ := hmv0
  rw [X2.out] at hcv hmvl ⊢
  obtain ⟨gv, ov, rfl, hvt, hvc⟩ := U32.at hrv (show 0 < (limbs (b * 2 ^ s)).length by rw [X2.out]; omega)
  have hvgu : gv < gu := Nat.lt_of_lt_of_le hvt.lt hgu
  have hmk := mk_u32 (e + 1) ((e : Int) + 1) (by omega) (by omega)
  have U1 := hide hul; have U2 := hide hus; have U3 := hide huv; have U4 := hide hvc; have U5 := hide hvl
  clear hul hus huv hvc hvl hrv hmv hU1
  go_wp2_with fail
  obtain ⟨V, hVe⟩ : ∃ V, b * 2 ^ s = V := ⟨_, rfl⟩
  rw [hVe] at X2 X4 U4 U5
  have HV := hide hVe
  clear hVe
  have hVlt : V < 4294967296 ^ (m + 2) := by have := lt_pow_limbs V; rwa [X2.out] at this
  have hVge : 2147483648 * 4294967296 ^ (m + 1) ≤ V := by
    have h := X4.out
    rw [limbs_top V (m + 1) X2.out, Nat.le_div_iff_mul_le (Nat.pow_pos (by omega))] at h
    exact h
  have HV1 := hide hVlt; have HV2 := hide hVge
  clear hVlt hVge
  obtain ⟨gq, hgq⟩ : ∃ gq, w2.heap.size = gq := ⟨_, rfl⟩
  have hguq : gu < gq := by rw [← hgq]; exact hB2.lt
  rw [hgq]
  have HGQ := hide hgq
  clear hgq
  rw [show m + 2 + 1 = m + 3 by omega]
  go_loopw [13] (fun js wr => ∃ (k : Nat) (ds qs : List Nat), k ≤ e + 1 ∧ js = .int .i64 ((k : Int) - 1) ∧ ds.length = la + 1 ∧ (∀ z ∈ ds, z < 4294967296) ∧ k + qs.length = e + 1 ∧ (∀ z ∈ qs, z < 4294967296) ∧
    a * 2 ^ s = V * (4294967296 ^ k * val qs) + val ds ∧ val ds < V * 4294967296 ^ k ∧ Blk wr gu 163 (rowL ds) ∧ Blk wr gq 163 (rowL (List.replicate k 0 ++ qs)) ∧
    (∀ j, j < m + 2 → wr.cell? ⟨gv, ov + j, none⟩ = some (.int .u32 (((limbs V).getD j 0 : Nat) : Int))) ∧ Below w.heap.size w wr) (fun js _ => (intOf js + 1).toNat)
  case atStart =>
    refine ⟨e + 1, us, [], by omega, by go_num, by rw [U1.out], U2.out, rfl, by simp, ?_, ?_, ?_, ?_, ?_, ?_⟩
    · rw [U3.out, val_limbs, val_nil, Nat.mul_zero, Nat.mul_zero, Nat.zero_add]
    · rw [U3.out, val_limbs]
      have h1 := lt_pow_limbs a
      rw [X3.out] at h1
      have h2 : (2 : Nat) ^ s ≤ 2147483648 := by
        have : (2 : Nat) ^ s ≤ 2 ^ 31 := Nat.pow_le_pow_right (by omega) (by omega)
        omega
      have h3 : a * 2 ^ s < 4294967296 ^ la * 2147483648 := Nat.lt_of_lt_of_le (Nat.mul_lt_mul_of_pos_right h1 (Nat.two_pow_pos s)) (Nat.mul_le_mul_left _ h2)
      have h4 : 4294967296 ^ la * 2147483648 = 2147483648 * 4294967296 ^ (m + 1) * 4294967296 ^ (e + 1) := by
        rw [Nat.mul_assoc, ← Nat.pow_add, Nat.mul_comm, show m + 1 + (e + 1) = la by have := HE2.out; omega]
      exact Nat.lt_of_lt_of_le h3 (by rw [h4]; exact Nat.mul_le_mul_right _ HV2.out)
    · exact hB2.alloc _
    · rw [← HGQ.out, List.append_nil]; exact Blk.new _ _ _
    · intro j hj
      rw [World.cell?_alloc_lt _ _ _ (by show gv < w2.heap.size; rw [HGQ.out]; omega), E2.cell (p := ⟨gv, ov + j, none⟩) hvt.lt]
      exact U4.out j (by rw [X2.out]; exact hj)
    · exact ((E0.tr E1).tr E2).alloc (by have := E0.size; have := E1.size; have := E2.size; omega) _
  case round =>
    obtain ⟨k, ds, qs, hk, rfl, hdl, hds, hql, hqs, hval, hlt, hBu, hBq, hvc, hE⟩ := hrel
    by_cases hk0 : 0 < k
    · obtain ⟨n, rfl⟩ : ∃ n, k = n + 1 := ⟨k - 1, by omega⟩
      have en : (((n + 1 : Nat) : Int) - 1) = (n : Int) := by omega
      rw [en]
      have L1 := hide hdl; have L2 := hide hds; have L3 := hide hql; have L4 := hide hqs; have L5 := hide hval; have L6 := hide hlt; have L7 := hide hvc; have L8 := hide hBu
      clear hdl hds hql hqs hval hlt hvc hBu en
      have hfr := hBq.frozen n
      have hcell : wr.cell? ⟨gq, n, none⟩ = some (.int .u32 ((0 : Nat) : Int)) := by rw [hBq.cell, rowL_get (by have := L3.out; simp; omega), getD_zeros_app _ _ _ (by omega)]
      have hpl : (ds.take n).length = n := by have := L1.out; simp; have := HE2.out; omega
      have hsl : ((ds.drop n).take (m + 3)).length = m + 3 := by have := L1.out; simp; have := HE2.out; omega
      have hsplit : ds = ds.take n ++ (ds.drop n).take (m + 3) ++ ds.drop (n + (m + 3)) := by
        rw [List.append_assoc, ← List.drop_drop, List.take_append_drop, List.take_append_drop]
      obtain ⟨pre, hpre⟩ : ∃ pre, ds.take n = pre := ⟨_, rfl⟩
      obtain ⟨seg, hseg⟩ : ∃ seg, (ds.drop n).take (m + 3) = seg := ⟨_, rfl⟩
      obtain ⟨post, hpost⟩ : ∃ post, ds.drop (n + (m + 3)) = post := ⟨_, rfl⟩
      rw [hpre] at hpl hsplit
      rw [hseg] at hsl hsplit
      rw [hpost] at hsplit
      have hsd : ∀ z ∈ seg, z < 4294967296 := fun z hz => L2.out z (by rw [hsplit]; simp [hz])
      have hpd : ∀ z ∈ pre, z < 4294967296 := fun z hz => L2.out z (by rw [hsplit]; simp [hz])
      have hpod : ∀ z ∈ post, z < 4294967296 := fun z hz => L2.out z (by rw [hsplit]; simp [hz])
      have hvds : val ds = val pre + 4294967296 ^ n * (val seg + 4294967296 ^ (m + 3) * val post) := by
        rw [hsplit, List.append_assoc, val_append, val_append, hpl, hsl]
      have hlaw := part_law hvds L6.out HV1.out
      have hpre_lt : val pre < 4294967296 ^ n := by have := val_lt pre hpd; rwa [hpl] at this
      have hB3 := L8.out
      rw [hsplit] at hB3
      have hdig := digit_any gu gv ov (la + 1 - n) cv m pre seg post (limbs V) wr hB3 hsl X2.out hsd U5.out X4.out (by rw [val_limbs]; exact hlaw.2) (by omega) (Nat.lt_of_lt_of_le (Nat.lt_trans hvgu hguq) (by have := hBq.lt; omega)) L7.out (by omega)
      rw [hpl, val_limbs] at hdig
      have HD := hide hdig; have M1 := hide hpl; have M2 := hide hsl; have M3 := hide hsplit; have M4 := hide hvds; have M5 := hide hlaw; have M6 := hide hpre_lt; have M7 := hide hpd; have M8 := hide hpod
      clear hdig hpl hsl hsplit hvds hlaw hpre_lt hpre hseg hpost hsd hpd hpod hB3 hfr hcell
      go_wp2_with fail
      rw [show n + (m + 2) + 1 - n = m + 3 by omega]
      refine HD.out.mono ?_
      rintro e' w' ⟨seg', rfl, hl', hd', hv', hBu', hG⟩
      have hBq' : Blk w' gq 163 (rowL (List.replicate (n + 1) 0 ++ qs)) := (hG.block gq hBq.lt (by intro h; injection h; omega)).trans hBq
      have hfr := hBq'.frozen n
      have hcell : w'.cell? ⟨gq, n, none⟩ = some (.int .u32 ((0 : Nat) : Int)) := by rw [hBq'.cell, rowL_get (by have := L3.out; simp; omega), getD_zeros_app _ _ _ (by omega)]
      obtain ⟨q, hq⟩ : ∃ q, val seg / V = q := ⟨_, rfl⟩
      have hqB : q < 4294967296 := by
        have hVpos : 0 < V := by
          have h1 := HV2.out
          have h2 : 0 < 2147483648 * 4294967296 ^ (m + 1) := Nat.mul_pos (by omega) (Nat.pow_pos (by omega))
          omega
        rw [← hq, Nat.div_lt_iff_lt_mul hVpos, Nat.mul_comm]; exact M5.out.2
      rw [hq]
      have hset := hBq'.set_ n (.int .u32 (q : Int))
      rw [rowL_set, set_zeros_app] at hset
      have hBu2 : Blk (w'.setCell ⟨gq, n, none⟩ (.int .u32 (q : Int))) gu 163 (rowL (pre ++ seg' ++ post)) := hBu'.far (by show gu ≠ gq; omega) _
      have hE2 : Below w.heap.size w (w'.setCell ⟨gq, n, none⟩ (.int .u32 (q : Int))) := by
        have hw1 : w.heap.size ≤ gu := by have := E0.size; have := E1.size; omega
        have h1 : Below w.heap.size w w' := hE.grown hG (by have := hE.size; omega) (by intro k hk; injection hk with hk; omega)
        exact h1.setCell (by show w.heap.size ≤ gq; omega) _
      have hvc2 : ∀ j, j < m + 2 → (w'.setCell ⟨gq, n, none⟩ (.int .u32 (q : Int))).cell? ⟨gv, ov + j, none⟩ = some (.int .u32 (((limbs V).getD j 0 : Nat) : Int)) := by
        intro j hj
        rw [World.cell?_of_block (w := w') (a := ⟨gv, ov + j, none⟩) (Below.heap_setCell w' _ _ gv (by show gv ≠ gq; omega)), grown_cell hG (by have := hBq.lt; omega) (by omega)]
        exact L7.out j hj
      have N1 := hide hq; have N2 := hide hl'; have N3 := hide hd'; have N4 := hide hv'; have N5 := hide hvc2
      clear hq hl' hd' hv' hvc2 hBu' hBq' hBq hG
      go_wp2_with fail
      go_roundw
      case rel =>
        refine ⟨n, pre ++ seg' ++ post, q :: qs, by omega, by go_num, ?_, ?_, ?_, ?_, ?_, ?_, hBu2, hset, N5.out, hE2⟩
        · have h1 := congrArg List.length M3.out
          rw [L1.out] at h1
          simp only [List.length_append] at h1 ⊢
          have := M2.out; have := N2.out; omega
        · intro z hz
          rcases List.mem_append.1 hz with h | h
          · rcases List.mem_append.1 h with h | h
            · exact M7.out z h
            · exact N3.out z h
          · exact M8.out z h
        · have := L3.out; simp only [List.length_cons]; omega
        · intro z hz
          rcases List.mem_cons.1 hz with rfl | hz
          · exact hqB
          · exact L4.out z hz
        · rw [List.append_assoc, val_append, val_append, M1.out, N4.out, M5.out.1, Nat.mul_zero, Nat.add_zero, L5.out, M4.out, M5.out.1, Nat.mul_zero, Nat.add_zero, val]
          exact part_eq N1.out
        · rw [List.append_assoc, val_append, val_append, M1.out, N4.out, M5.out.1, Nat.mul_zero, Nat.add_zero]
          exact part_lt M6.out (by
            have h1 := HV2.out
            have h2 : 0 < 2147483648 * 4294967296 ^ (m + 1) := Nat.mul_pos (by omega) (Nat.pow_pos (by omega))
            omega)
      case measure => simp [intOf]
    · obtain rfl : k = 0 := by omega
      have L1 := hide hdl; have L2 := hide hds; have L3 := hide hql; have L4 := hide hqs; have L5 := hide hval; have L6 := hide hlt
      have hdn : ds.length = la + 1 := hdl
      have hVpos : 0 < V := by
        have h1 := HV2.out
        have h2 : 0 < 2147483648 * 4294967296 ^ (m + 1) := Nat.mul_pos (by omega) (Nat.pow_pos (by omega))
        omega
      have hUq : U32 wr (.slice (some ⟨gq, 0, none⟩) (e + 1) (e + 1)) qs := by
        refine ⟨_, _, by rw [show qs.length = e + 1 by omega], by omega, by omega, hqs, Rd.of_blk hBq 0 _ ?_⟩
        intro j hj; simp [rowL]
      have hq : val qs = a / b := by
        rw [Nat.pow_zero, Nat.one_mul] at hval
        rw [Nat.pow_zero, Nat.mul_one] at hlt
        have h1 : a * 2 ^ s / V = val qs := by rw [hval, Nat.mul_add_div hVpos, Nat.div_eq_of_lt hlt]; rfl
        rw [← h1, ← HV.out, Nat.mul_div_mul_right _ _ (Nat.two_pow_pos s)]
      have hr : val ds / 2 ^ s = a % b := by
        rw [Nat.pow_zero, Nat.one_mul] at hval
        rw [Nat.pow_zero, Nat.mul_one] at hlt
        have h1 : a * 2 ^ s % V = val ds := by rw [hval, Nat.mul_add_mod, Nat.mod_eq_of_lt hlt]
        rw [← h1, ← HV.out, Nat.mul_mod_mul_right, Nat.mul_div_cancel _ (Nat.two_pow_pos s)]
      have hdt : val (ds.take (m + 2)) = val ds := by
        conv => rhs; rw [← List.take_append_drop (m + 2) ds]
        rw [val_append]
        have hl : (ds.take (m + 2)).length = m + 2 := by simp; have := HE2.out; omega
        rw [hl]
        have h0 : val (ds.drop (m + 2)) = 0 := by
          rw [Nat.pow_zero, Nat.mul_one] at hlt
          have h1 : val ds = val (ds.take (m + 2)) + 4294967296 ^ (m + 2) * val (ds.drop (m + 2)) := by
            conv => lhs; rw [← List.take_append_drop (m + 2) ds]
            rw [val_append, hl]
          have h2 := HV1.out
          rcases Nat.eq_zero_or_pos (val (ds.drop (m + 2))) with h | h
          · exact h
          · have : 4294967296 ^ (m + 2) * 1 ≤ 4294967296 ^ (m + 2) * val (ds.drop (m + 2)) := Nat.mul_le_mul_left _ h
            omega
        rw [h0]; omega
      have hUu : U32 wr (.slice (some ⟨gu, 0, none⟩) (m + 2) (la + 1)) (ds.take (m + 2)) := by
        have hl : (ds.take (m + 2)).length = m + 2 := by simp; have := HE2.out; omega
        refine ⟨_, _, by rw [hl], by rw [hl]; omega, by rw [hl]; omega, fun z hz => hds z (List.mem_of_mem_take hz), Rd.of_blk hBu 0 _ ?_⟩
        intro j hj
        have hjl : j < m + 2 := by rw [List.length_map, hl] at hj; exact hj
        simp [rowL, List.getElem?_take_of_lt hjl]
      have hbd : m + 2 ≤ la + 1 := by omega
      have bi1 : (0 : Int) ≤ (m : Int) + 2 := by omega
      have bi2 : (m : Int) + 2 ≤ (la : Int) + 1 := by omega
      have T1 := fun W (h : Ext wr W) => trim_any _ qs W (hUq.ext h)
      have T2 := fun W (h : Ext wr W) => trim_any _ _ W (hUu.ext h)
      rw [hdt] at T2
      rw [hq] at T1
      have hdl0 : (limbs (val ds)).length ≤ m + 2 := by
        rw [Nat.pow_zero, Nat.mul_one] at hlt
        exact limbs_length_le (Nat.lt_trans hlt HV1.out)
      have HDL := hide hdl0
      have HT1 := hide T1; have HT2 := hide T2; have HR := hide hr
      clear T1 T2 hq hr hdt hdl hds hql hqs hval hlt hvc hBu hBq hUq hUu hdn hdl0
      have bt : ((m : Int) + 2).toNat = m + 2 := by omega
      go_wp2_with fail
      obtain ⟨Gs, hGs⟩ : ∃ Gs : List (Value → World → Prop), Gs = [(fun v _ => v = .slice (some ⟨gq, 0, none⟩) (e + 1) (e + 1)), (fun v W => Mag W v (a / b)), (fun v _ => v = .slice (some ⟨gu, 0, none⟩) (la + 1) (la + 1)), (fun v _ => v = .int .i64 ((m : Int) + 2)), (fun v _ => v = .slice (some ⟨gu, 0, none⟩) (m + 2) (la + 1)), (fun v W => Mag W v (val ds)), (fun v _ => v = .int .i64 (s : Int)), (fun v W => Mag W v (a % b))] := ⟨_, rfl⟩
      have hst : Flow.Stay Ext Gs := by rw [hGs]; exact (Flow.Stay.cons (fun _ _ _ _ h => h) (Flow.Stay.cons (fun _ _ E _ h => Mag.ext h E) (Flow.Stay.cons (fun _ _ _ _ h => h) (Flow.Stay.cons (fun _ _ _ _ h => h) (Flow.Stay.cons (fun _ _ _ _ h => h) (Flow.Stay.cons (fun _ _ E _ h => Mag.ext h E) (Flow.Stay.cons (fun _ _ _ _ h => h) (Flow.Stay.cons (fun _ _ E _ h => Mag.ext h E) Flow.Stay.nil))))))))
      refine Flow.wp_region_flow 8 (by kernel_rfl) (fun W => Ext wr W) Gs (by kernel_rfl) (Ext.rfl' wr).drew ?flowsteps ?flowend
      case flowsteps =>
        refine ⟨?_, ?_, ?_, ?_, ?_, ?_, ?_, ?_, trivial⟩
        · refine Flow.step_val rfl fun a W hb hI hd => ?_
          have h12 : a.eval (.tmp 12) = .slice (some ⟨gq, 0, none⟩) (e + 1) (e + 1) := hb.pre' 12 (by kernel_rfl)
          exact ⟨_, rfl, by rw [hGs]; exact h12⟩
        · refine Flow.step_call rfl fun a W hb hI hd => ?_
          have h77 : a.eval (.tmp 77) = .slice (some ⟨gq, 0, none⟩) (e + 1) (e + 1) := by have h := hd _ (Array.mem_of_getElem? (i := 0) rfl) rfl; rw [hGs] at h; exact h
          refine ⟨111, #[a.eval (.tmp 77)], Flow.run_enter (enters_of Tryz.func111 (by kernel_rfl) rfl) (by simp), ?_⟩
          rw [h77]
          refine (HT1.out W hI).mono ?_
          rintro e' w' ⟨v, rfl, hm, rfl⟩
          exact ⟨v, rfl, by rw [hGs]; exact hm, hI, hst.at (Ext.rfl' W)⟩
        · refine Flow.step_val rfl fun a W hb hI hd => ?_
          have h10 : a.eval (.tmp 10) = .slice (some ⟨gu, 0, none⟩) (la + 1) (la + 1) := hb.pre' 10 (by kernel_rfl)
          exact ⟨_, rfl, by rw [hGs]; exact h10⟩
        · refine Flow.step_val rfl fun a W hb hI hd => ?_
          have h11 : a.eval (.tmp 11) = .int .i64 ((m : Int) + 2) := hb.pre' 11 (by kernel_rfl)
          exact ⟨_, rfl, by rw [hGs]; exact h11⟩
        · refine Flow.step_val rfl fun a W hb hI hd => ?_
          have h79 : a.eval (.tmp 79) = .slice (some ⟨gu, 0, none⟩) (la + 1) (la + 1) := by have h := hd _ (Array.mem_of_getElem? (i := 0) rfl) rfl; rw [hGs] at h; exact h
          have h80 : a.eval (.tmp 80) = .int .i64 ((m : Int) + 2) := by have h := hd _ (Array.mem_of_getElem? (i := 1) rfl) rfl; rw [hGs] at h; exact h
          have g79 : a.tmps[79]?.getD undef = .slice (some ⟨gu, 0, none⟩) (la + 1) (la + 1) := by have h := h79; simp only [Act.eval, Array.getD_eq_getD_getElem?] at h; exact h
          have g80 : a.tmps[80]?.getD undef = .int .i64 ((m : Int) + 2) := by have h := h80; simp only [Act.eval, Array.getD_eq_getD_getElem?] at h; exact h
          exact ⟨.slice (some ⟨gu, 0, none⟩) (m + 2) (la + 1), by simp [go_sem, g79, g80, bi1, bi2, bt], by rw [hGs]; rfl⟩
        · refine Flow.step_call rfl fun a W hb hI hd => ?_
          have h81 : a.eval (.tmp 81) = .slice (some ⟨gu, 0, none⟩) (m + 2) (la + 1) := by have h := hd _ (Array.mem_of_getElem? (i := 0) rfl) rfl; rw [hGs] at h; exact h
          refine ⟨111, #[a.eval (.tmp 81)], Flow.run_enter (enters_of Tryz.func111 (by kernel_rfl) rfl) (by simp), ?_⟩
          rw [h81]
          refine (HT2.out W hI).mono ?_
          rintro e' w' ⟨v, rfl, hm, rfl⟩
          exact ⟨v, rfl, by rw [hGs]; exact hm, hI, hst.at (Ext.rfl' W)⟩
        · refine Flow.step_val rfl fun a W hb hI hd => ?_
          have h8 : a.eval (.tmp 8) = .int .i64 (s : Int) := hb.pre' 8 (by kernel_rfl)
          exact ⟨_, rfl, by rw [hGs]; exact h8⟩
        · refine Flow.step_call rfl fun a W hb hI hd => ?_
          have h82 : (fun v W => Mag W v (val ds)) (a.eval (.tmp 82)) W := by have h := hd _ (Array.mem_of_getElem? (i := 0) rfl) rfl; rw [hGs] at h; exact h
          have h83 : a.eval (.tmp 83) = .int .i64 (s : Int) := by have h := hd _ (Array.mem_of_getElem? (i := 1) rfl) rfl; rw [hGs] at h; exact h
          refine ⟨141, #[a.eval (.tmp 82), a.eval (.tmp 83)], Flow.run_enter (enters_of Tryz.func141 (by kernel_rfl) rfl) (by simp), ?_⟩
          rw [h83]
          refine (down_u32 _ _ s W h82 hs (by have := HDL.out; omega)).mono ?_
          rintro e' w' ⟨v, rfl, hm, hE'⟩
          exact ⟨v, rfl, by rw [hGs]; show Mag _ _ _; rw [← HR.out, ← val_limbs (val ds)]; exact hm, hI.tr hE', hst.at hE'⟩
      case flowend =>
        rw [hGs]
        refine fun W hI v0 h0 v1 h1 v2 h2 v3 h3 v4 h4 v5 h5 v6 h6 v7 h7 => ?_
        obtain rfl : v0 = .slice (some ⟨gq, 0, none⟩) (e + 1) (e + 1) := h0
        have h1 : (fun v W => Mag W v (a / b)) v1 W := h1
        obtain rfl : v2 = .slice (some ⟨gu, 0, none⟩) (la + 1) (la + 1) := h2
        obtain rfl : v3 = .int .i64 ((m : Int) + 2) := h3
        obtain rfl : v4 = .slice (some ⟨gu, 0, none⟩) (m + 2) (la + 1) := h4
        have h5 : (fun v W => Mag W v (val ds)) v5 W := h5
        obtain rfl : v6 = .int .i64 (s : Int) := h6
        have h7 : (fun v W => Mag W v (a % b)) v7 W := h7
        clear hst hGs
        show wpList _ _ _ _ _ _
        simp only [List.drop_succ_cons, List.drop_zero, Act.put, List.setIfInBounds_toArray, List.set_cons_zero, List.set_cons_succ]
        go_wp2_with fail
        go_ret2
        exact ⟨_, _, rfl, h1, h7, hE.trans (hI.mono hE.size)⟩

/-- part returns the quotient and the remainder of sizes; b is not 0. -/
theorem part_any (va vb : Value) (a b : Nat) (w : World) (ha : Mag w va a) (hb : Mag w vb b) (hb0 : b ≠ 0) (hsz : (limbs a).length ≤ 17592186044416) :
    Calls Tryz.prog 114 #[va, vb] w fun e w' => ∃ q r, e = .returned (.tuple #[q, r]) ∧ Mag w' q (a / b) ∧ Mag w' r (a % b) ∧ Ext w w' := by
  by_cases h1 : a < b
  · exact part_less va vb a b w ha hb h1 hsz
  · by_cases h2 : b < 4294967296
    · exact part_word va vb a b w ha hb (by omega) (by omega) h2 hsz
    · exact part_long va vb a b w ha hb (by omega) (by omega) hsz

end Go.Proofs.YtncabodphjkkfaaGreat
