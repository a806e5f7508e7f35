/- Products of sizes, and their division by one digit. Conditions: none. -/
import Derived.Test.YtncabodphjkkfaaGreatN2
namespace Go.Proofs.YtncabodphjkkfaaGreat
open Go.RowKit Go.Limbs

theorem val_nil : val [] = 0 := rfl
def rowL (os : List Nat) : Array Value := (os.map u32).toArray
theorem row_eq (ds : List Nat) (m : Nat) : row ds m = rowL (ds ++ List.replicate m 0) := rfl
theorem rowL_get {os : List Nat} {k : Nat} (h : k < os.length) : (rowL os)[k]? = some (.int .u32 ((os.getD k 0 : Nat) : Int)) := by
  simp only [rowL, List.getElem?_toArray, List.getElem?_map, List.getElem?_eq_getElem h, Option.map_some, u32]
  rw [list_getD_eq _ _ h]
theorem rowL_set (os : List Nat) (k x : Nat) : (rowL os).setIfInBounds k (.int .u32 (x : Int)) = rowL (os.set k x) := by
  simp [rowL, u32]

theorem val_set (os : List Nat) (k x : Nat) (h : k < os.length) : val (os.set k x) + 4294967296 ^ k * os.getD k 0 = val os + 4294967296 ^ k * x := by
  induction os generalizing k with
  | nil => simp at h
  | cons o os ih =>
    cases k with
    | zero => simp [val]; omega
    | succ k =>
      have := ih k (by simpa using h)
      simp only [List.set_cons_succ, val, List.getD_cons_succ, Nat.pow_succ]
      rw [Nat.mul_comm (4294967296 ^ k) 4294967296, Nat.mul_assoc, Nat.mul_assoc]
      omega
theorem getD_set_self (os : List Nat) (k x : Nat) (h : k < os.length) : (os.set k x).getD k 0 = x := by simp [List.getD, h]
theorem getD_set_ne' (os : List Nat) (k j x : Nat) (h : k ≠ j) : (os.set k x).getD j 0 = os.getD j 0 := by simp [List.getD, List.getElem?_set_ne h]
theorem lt_set {os : List Nat} {k x : Nat} (h : ∀ z ∈ os, z < 4294967296) (hx : x < 4294967296) : ∀ z ∈ os.set k x, z < 4294967296 := by
  intro z hz
  rcases List.mem_or_eq_of_mem_set hz with h1 | h1
  · exact h z h1
  · omega
theorem getD_lt {os : List Nat} (h : ∀ z ∈ os, z < 4294967296) (k : Nat) : os.getD k 0 < 4294967296 := by
  by_cases hk : k < os.length
  · rw [list_getD_eq _ _ hk]; exact h _ (List.getElem_mem _)
  · simp [List.getD, hk]


theorem times_bound {x y o c : Nat} (hx : x < 4294967296) (hy : y < 4294967296) (ho : o < 4294967296) (hc : c < 4294967296) : x * y + o + c < 18446744073709551616 ∧ (x * y + o + c) / 4294967296 < 4294967296 := by
  have h1 : x * y ≤ 4294967295 * 4294967295 := Nat.mul_le_mul (by omega) (by omega)
  omega

theorem times_step (x y o c V W Y p q : Nat) (h : V + (p * q) * c = W + p * (x * Y)) (t : Nat) (ht : t = x * y + o + c) (V' : Nat) (hV : V' + (p * q) * o = V + (p * q) * (t % 4294967296)) :
    V' + (p * (q * 4294967296)) * (t / 4294967296) = W + p * (x * (Y + q * y)) := by
  have h1 := Nat.mod_add_div t 4294967296
  have h2 : (p * q) * (t % 4294967296) + (p * (q * 4294967296)) * (t / 4294967296) = (p * q) * t := by
    rw [← Nat.mul_assoc p q, Nat.mul_assoc (p * q), ← Nat.mul_add, h1]
  have h3 : p * (x * (Y + q * y)) = p * (x * Y) + (p * q) * (x * y) := by
    rw [Nat.mul_add, Nat.mul_add]; congr 1
    rw [Nat.mul_left_comm x q y, ← Nat.mul_assoc p q]
  have h4 : (p * q) * t = (p * q) * (x * y) + (p * q) * o + (p * q) * c := by rw [ht, Nat.mul_add, Nat.mul_add]
  omega

set_option maxHeartbeats 1000000 in
theorem times_u32 (va vb : Value) (xs ys : List Nat) (w : World) (ha : U32 w va xs) (hb : U32 w vb ys) (hsz : xs.length + ys.length ≤ 35184372088832) :
    Calls Tryz.prog 117 #[va, vb] w fun e w' => ∃ v', e = .returned v' ∧ Mag w' v' (val xs * val ys) ∧ Ext w w' := by
  obtain ⟨A, ca, rfl, hca, hma, hla, hra⟩ := ha
  obtain ⟨B, cb, rfl, hcb, hmb, hlb, hrb⟩ := hb
  have hmk := mk_u32 (xs.length + ys.length) (xs.length + ys.length) (by omega) (by omega)
  go_enter Tryz.func117, Tryz.ntmps117
  go_wp2_with fail
  go_loopw [20] (fun i wr => ∃ (k : Nat) (os : List Nat), k ≤ xs.length ∧ i = .int .i64 (k : Int) ∧ os.length = xs.length + ys.length ∧ (∀ z ∈ os, z < 4294967296) ∧
      val os = val (xs.take k) * val ys ∧ (∀ j, k + ys.length ≤ j → os.getD j 0 = 0) ∧ Blk wr w.heap.size 163 (rowL os) ∧ Below w.heap.size w wr) (fun i _ => xs.length - (intOf i).toNat)
  case atStart => exact ⟨0, List.replicate (xs.length + ys.length) 0, Nat.zero_le _, rfl, by simp, by intro z hz; have := (List.mem_replicate.1 hz).2; omega, by rw [val_replicate, List.take_zero, val_nil, Nat.zero_mul],
    by intro j _; by_cases h : j < xs.length + ys.length <;> simp [List.getD, h], Blk.new _ _ _, (Below.refl _ _).alloc (Nat.le_refl _) _⟩
  case round =>
    obtain ⟨k, os, hk, rfl, hol, hos, hval, hz, hB, hE⟩ := hrel
    by_cases hlt : k < xs.length
    · obtain ⟨b, off, rfl, hbt, hc⟩ := U32.at hra hlt
      obtain ⟨x, hx⟩ : ∃ x, xs.getD k 0 = x := ⟨_, rfl⟩
      have hc1 : wr.cell? ⟨b, off + k, none⟩ = some (.int .u32 (x : Int)) := by rw [← hx]; exact (hE.cell (p := ⟨b, off + k, none⟩) hbt.lt).trans (hc k hlt)
      have hxl : x < 4294967296 := by rw [← hx]; exact getD_lt hla k
      have hX := hide hx; have hV := hide hval; have hL := hide hol; have hD := hide hos; have hZ := hide hz
      clear hx hc hval hol hos hz
      go_wp2_with fail
      obtain ⟨wo, rfl⟩ : ∃ wo : World, wo = wr := ⟨_, rfl⟩
      go_loopw [8, 27] (fun c j wi => ∃ (m : Nat) (ps : List Nat) (cy : Nat), m ≤ ys.length ∧ j = .int .i64 (m : Int) ∧ c = .int .u64 (cy : Int) ∧ cy < 4294967296 ∧ ps.length = xs.length + ys.length ∧ (∀ z ∈ ps, z < 4294967296) ∧
        val ps + (4294967296 ^ k * 4294967296 ^ m) * cy = val os + 4294967296 ^ k * (x * val (ys.take m)) ∧ (∀ j, k + ys.length ≤ j → ps.getD j 0 = 0) ∧ Blk wi w.heap.size 163 (rowL ps) ∧ Below w.heap.size w wi) (fun _ j _ => ys.length - (intOf j).toNat)
      case atStart => exact ⟨0, os, 0, Nat.zero_le _, rfl, rfl, by omega, hL.out, hD.out, by rw [List.take_zero, val_nil, Nat.mul_zero, Nat.mul_zero, Nat.mul_zero], hZ.out, hB, hE⟩
      case round =>
        clear hB hE hc1
        obtain ⟨m, ps, cy, hm, rfl, rfl, hcy, hpl, hps, hpv, hpz, hB, hE⟩ := hrel
        by_cases hmt : m < ys.length
        · obtain ⟨b', off', rfl, hbt', hc'⟩ := U32.at hrb hmt
          obtain ⟨y, hy⟩ : ∃ y, ys.getD m 0 = y := ⟨_, rfl⟩
          have hc2 : wr.cell? ⟨b', off' + m, none⟩ = some (.int .u32 (y : Int)) := by rw [← hy]; exact (hE.cell (p := ⟨b', off' + m, none⟩) hbt'.lt).trans (hc' m hmt)
          obtain ⟨o, ho⟩ : ∃ o, ps.getD (k + m) 0 = o := ⟨_, rfl⟩
          have hc3 : wr.cell? ⟨w.heap.size, k + m, none⟩ = some (.int .u32 (o : Int)) := by rw [hB.cell, rowL_get (by omega), ho]
          have hfr := hB.frozen (k + m)
          have hyl : y < 4294967296 := by rw [← hy]; exact getD_lt hlb m
          have hol : o < 4294967296 := by rw [← ho]; exact getD_lt hps _
          obtain ⟨t, ht⟩ : ∃ t, t = x * y + o + cy := ⟨_, rfl⟩
          have hT := times_bound hxl hyl hol hcy
          have hxy1 : (x : Int) * (y : Int) ≤ 18446744065119617025 := by have h1 : x * y ≤ 4294967295 * 4294967295 := Nat.mul_le_mul (by omega) (by omega); rw [← Int.natCast_mul]; omega
          have hxy0 : (0 : Int) ≤ (x : Int) * (y : Int) := by rw [← Int.natCast_mul]; omega
          have hY := hide hy; have hO := hide ho; have hPV := hide hpv; have hPL := hide hpl; have hPS := hide hps; have hPZ := hide hpz; have hT' := hide hT; have hTT := hide ht
          clear hy ho hpv hpl hps hpz hc' hT ht
          go_wp2_with fail
          have hset := hB.set_ (k + m) (.int .u32 ((t % 4294967296 : Nat) : Int))
          rw [rowL_set] at hset
          have et : ((t % 4294967296 : Nat) : Int) = ((x : Int) * y + o + cy) % 4294967296 := by rw [hTT.out, ← Int.natCast_mul]; omega
          rw [et] at hset
          have et2 : ((t / 4294967296 : Nat) : Int) = ((x : Int) * y + o + cy) / 4294967296 := by rw [hTT.out, ← Int.natCast_mul]; omega
          have hE2 := hE.setCell (p := ⟨w.heap.size, k + m, none⟩) (Nat.le_refl _) (.int .u32 (((x : Int) * y + o + cy) % 4294967296))
          go_roundw
          case rel =>
            refine ⟨m + 1, ps.set (k + m) (t % 4294967296), t / 4294967296, by omega, by go_num, ?_, by rw [hTT.out]; exact hT'.out.2, by rw [List.length_set]; exact hPL.out, lt_set hPS.out (Nat.mod_lt _ (by omega)), ?_, ?_, hset, hE2⟩
            · rw [et2]
            · rw [val_take_succ, hY.out, Nat.pow_succ]
              have hs := val_set ps (k + m) (t % 4294967296) (by rw [hPL.out]; omega)
              rw [hO.out, Nat.pow_add] at hs
              exact times_step x y o cy _ _ _ _ _ hPV.out t hTT.out _ hs
            · intro j hj
              rw [getD_set_ne' _ _ _ _ (by omega)]
              exact hPZ.out j hj
          case measure => simp [intOf]; omega
        · obtain rfl : m = ys.length := by omega
          have hz0 : ps.getD (k + ys.length) 0 = 0 := hpz _ (Nat.le_refl _)
          have hc3 : wr.cell? ⟨w.heap.size, k + ys.length, none⟩ = some (.int .u32 ((0 : Nat) : Int)) := by rw [hB.cell, rowL_get (by omega), hz0]
          have hfr := hB.frozen (k + ys.length)
          have hset := hB.set_ (k + ys.length) (.int .u32 (cy : Int))
          rw [rowL_set] at hset
          have hE2 := hE.setCell (p := ⟨w.heap.size, k + ys.length, none⟩) (Nat.le_refl _) (.int .u32 (cy : Int))
          have hPV := hide hpv; have hPL := hide hpl; have hPS := hide hps; have hPZ := hide hpz; have hz0' := hide hz0
          clear hpv hpl hps hpz hz0
          go_wp2_with fail
          go_roundw
          case rel =>
            refine ⟨k + 1, ps.set (k + ys.length) cy, by omega, by go_num, by rw [List.length_set]; exact hPL.out, lt_set hPS.out hcy, ?_, ?_, hset, hE2⟩
            · rw [val_take_succ, hX.out, Nat.add_mul, ← hV.out]
              have hs := val_set ps (k + ys.length) cy (by rw [hPL.out]; omega)
              rw [hz0'.out, Nat.pow_add, Nat.mul_zero, Nat.add_zero, hPV.out, List.take_of_length_le (Nat.le_refl _)] at hs
              rw [hs, Nat.mul_assoc]
            · intro j hj
              rw [getD_set_ne' _ _ _ _ (by omega)]
              exact hPZ.out j (by omega)
          case measure => simp [intOf]; omega
    · obtain rfl : k = xs.length := by omega
      have hU : U32 wr (.slice (some ⟨w.heap.size, 0, none⟩) (xs.length + ys.length) (xs.length + ys.length)) os := by
        refine ⟨_, _, by rw [hol], by omega, by omega, hos, Rd.of_blk hB 0 _ ?_⟩
        intro j hj; simp [rowL]
      have hV := hide hval
      clear hB hval hol hos hz
      go_wp2_with (go_at_call 111; refine (trim_any _ _ _ hU).mono ?_; rintro e w' ⟨v', rfl, hmag, rfl⟩)
      go_ret
      refine ⟨_, rfl, ?_, hE⟩
      have h := hV.out
      rw [List.take_of_length_le (Nat.le_refl _)] at h
      rw [← h]; exact hmag

theorem times_any (va vb : Value) (a b : Nat) (w : World) (ha : Mag w va a) (hb : Mag w vb b) (hs : (limbs a).length + (limbs b).length ≤ 35184372088832) :
    Calls Tryz.prog 117 #[va, vb] w fun e w' => ∃ v', e = .returned v' ∧ Mag w' v' (a * b) ∧ Ext w w' := by
  have := times_u32 va vb _ _ w ha hb hs
  rwa [val_limbs, val_limbs] at this

end Go.Proofs.YtncabodphjkkfaaGreat
