/- The small functions of package num, and of math/bits. Conditions: none. -/
import Derived.Test.YtncabodphjkkfaaGreatRep
namespace Go.Proofs.YtncabodphjkkfaaGreat
open Go.RowKit Go.Limbs

theorem ret_int {k : IntKind} {a b : Int} (h : a = b) : Ending.returned (.int k a) = .returned (.int k b) := by rw [h]
theorem ret_int2 {k k' : IntKind} {a b c d : Int} (h : a = b) (h' : c = d) : Ending.returned (.tuple #[.int k a, .int k' c]) = .returned (.tuple #[.int k b, .int k' d]) := by rw [h, h']

set_option maxHeartbeats 400000 in
theorem add32_any (x y c : Nat) (w : World) (hx : x < 4294967296) (hy : y < 4294967296) (hc : c ≤ 1) :
    Calls Tryz.prog 176 #[.int .u32 (x : Int), .int .u32 (y : Int), .int .u32 (c : Int)] w fun e w' =>
      e = .returned (.tuple #[.int .u32 (((x + y + c) % 4294967296 : Nat) : Int), .int .u32 (((x + y + c) / 4294967296 : Nat) : Int)]) ∧ w = w' := by
  go_enter Tryz.func176, Tryz.ntmps176
  go_wp2
  go_ret2
  exact ⟨ret_int2 (by omega) (by omega), rfl⟩

/-- What is borrowed from the next digit. -/
def borrow (x y c : Nat) : Nat := if x < y + c then 1 else 0
theorem borrow_le (x y c : Nat) : borrow x y c ≤ 1 := by unfold borrow; split <;> omega

theorem top_bit (v : Nat) (h : v < 4294967296) : v / 2147483648 = if v.testBit 31 then 1 else 0 := by
  rw [Nat.testBit_eq_decide_div_mod_eq]
  have e : (2 : Nat) ^ 31 = 2147483648 := by decide
  rw [e]
  have : v / 2147483648 < 2 := by omega
  by_cases h1 : v / 2147483648 % 2 = 1
  · simp [h1]; omega
  · simp [h1]; omega
theorem test31 (v : Nat) (h : v < 4294967296) : v.testBit 31 = decide (2147483648 ≤ v) := by
  rw [Nat.testBit_eq_decide_div_mod_eq]
  have e : (2 : Nat) ^ 31 = 2147483648 := by decide
  rw [e]
  by_cases h1 : 2147483648 ≤ v
  · simp [h1]; omega
  · simp [h1]; omega
theorem sub32_bits (x y d : Nat) (hx : x < 4294967296) (hy : y < 4294967296) (hd : d < 4294967296) :
    (((4294967295 ^^^ x) &&& y) ||| ((4294967295 ^^^ (x ^^^ y)) &&& d)) / 2147483648 =
      if (decide (x < 2147483648) && decide (2147483648 ≤ y)) || ((decide (2147483648 ≤ x) == decide (2147483648 ≤ y)) && decide (2147483648 ≤ d)) then 1 else 0 := by
  have b1 : ((4294967295 ^^^ x) &&& y) ||| ((4294967295 ^^^ (x ^^^ y)) &&& d) < 4294967296 := by
    have e : (4294967296 : Nat) = 2 ^ 32 := by decide
    rw [e] at *
    exact Nat.or_lt_two_pow (Nat.and_lt_two_pow _ hy) (Nat.and_lt_two_pow _ hd)
  rw [top_bit _ b1]
  have hM : (4294967295 : Nat).testBit 31 = true := by decide
  simp only [Nat.testBit_or, Nat.testBit_and, Nat.testBit_xor, hM, test31 x hx, test31 y hy, test31 d hd]
  by_cases h1 : 2147483648 ≤ x <;> by_cases h2 : 2147483648 ≤ y <;> by_cases h3 : 2147483648 ≤ d <;> simp [h1, h2, h3] <;> omega
theorem sub32_borrow (x y c : Nat) (hx : x < 4294967296) (hy : y < 4294967296) (hc : c ≤ 1) :
    bits .or .u32 (bits .and .u32 (bits .xor .u32 IntKind.u32.max (x : Int)) (y : Int)) (bits .and .u32 (bits .xor .u32 IntKind.u32.max (bits .xor .u32 (x : Int) (y : Int))) (((x : Int) - y - c) % 4294967296)) / 2147483648 = (borrow x y c : Nat) := by
  have hm : IntKind.u32.max = ((4294967295 : Nat) : Int) := by decide
  obtain ⟨d, hd⟩ : ∃ d : Nat, ((x : Int) - y - c) % 4294967296 = (d : Int) := ⟨(((x : Int) - y - c) % 4294967296).toNat, by omega⟩
  have hd2 : d < 4294967296 := by omega
  have e32 : (4294967296 : Nat) = 2 ^ 32 := by decide
  have h1 : 4294967295 ^^^ x < 4294967296 := by rw [e32] at *; exact Nat.xor_lt_two_pow (by decide) hx
  have h2 : x ^^^ y < 4294967296 := by rw [e32] at *; exact Nat.xor_lt_two_pow hx hy
  have h3 : 4294967295 ^^^ (x ^^^ y) < 4294967296 := by rw [e32] at *; exact Nat.xor_lt_two_pow (by decide) h2
  have h4 : (4294967295 ^^^ x) &&& y < 4294967296 := by rw [e32] at *; exact Nat.and_lt_two_pow _ hy
  have h5 : (4294967295 ^^^ (x ^^^ y)) &&& d < 4294967296 := by rw [e32] at *; exact Nat.and_lt_two_pow _ hd2
  rw [hm, hd, u32_xor_nat _ _ (by decide) hx, u32_xor_nat _ _ hx hy, u32_xor_nat _ _ (by decide) h2, u32_and_nat _ _ h1 hy, u32_and_nat _ _ h3 hd2, u32_or_nat _ _ h4 h5]
  have := sub32_bits x y d hx hy hd2
  have e : ((((((4294967295 ^^^ x) &&& y) ||| ((4294967295 ^^^ (x ^^^ y)) &&& d) : Nat)) : Int) / 2147483648) = ((((((4294967295 ^^^ x) &&& y) ||| ((4294967295 ^^^ (x ^^^ y)) &&& d)) / 2147483648 : Nat)) : Int) := by omega
  rw [e, this]
  unfold borrow
  congr 1
  by_cases g1 : 2147483648 ≤ x <;> by_cases g2 : 2147483648 ≤ y <;> by_cases g3 : 2147483648 ≤ d <;> by_cases g4 : x < y + c <;> simp [g1, g2, g3, g4] <;> omega

set_option maxHeartbeats 400000 in
theorem sub32_any (x y c : Nat) (w : World) (hx : x < 4294967296) (hy : y < 4294967296) (hc : c ≤ 1) :
    Calls Tryz.prog 175 #[.int .u32 (x : Int), .int .u32 (y : Int), .int .u32 (c : Int)] w fun e w' =>
      e = .returned (.tuple #[.int .u32 (((x + 4294967296 - y - c) % 4294967296 : Nat) : Int), .int .u32 (borrow x y c : Nat)]) ∧ w = w' := by
  have hb := hide (sub32_borrow x y c hx hy hc)
  go_enter Tryz.func175, Tryz.ntmps175
  go_wp2
  all_goals go_ret2
  all_goals exact ⟨ret_int2 (by omega) hb.out, rfl⟩

set_option maxHeartbeats 400000 in
theorem trim_any (v : Value) (zs : List Nat) (w : World) (hv : U32 w v zs) :
    Calls Tryz.prog 111 #[v] w fun e w' => ∃ v', e = .returned v' ∧ Mag w v' (val zs) ∧ w = w' := by
  obtain ⟨A, cap, rfl, hcap, hm, hlt, hrd⟩ := hv
  go_enter Tryz.func111, Tryz.ntmps111
  go_wp2
  go_loop [0] (fun s => ∃ n : Nat, n ≤ zs.length ∧ s = .slice A n cap ∧ ∀ j, n ≤ j → j < zs.length → zs.getD j 0 = 0) (fun s => match s with | .slice _ n _ => n | _ => 0)
  case atStart => exact ⟨zs.length, Nat.le_refl _, rfl, fun j h1 h2 => by omega⟩
  case round =>
    obtain ⟨n, hn, rfl, hz⟩ := hrel
    by_cases h0 : 0 < n
    · obtain ⟨b, off, rfl, hb, hc⟩ := U32.at hrd (k := n - 1) (by omega)
      have hc1 := hc (n-1) (by omega)
      by_cases h1 : zs.getD (n-1) 0 = 0
      · rw [h1] at hc1
        have hz' := hide hz
        have h1' := hide h1
        clear hz hc h1
        go_wp2
        go_round
        case rel => 
          refine ⟨n-1, by omega, rfl, fun j hj1 hj2 => ?_⟩
          by_cases hj : j = n-1
          · rw [hj]; exact h1'.out
          · exact hz'.out j (by omega) hj2
        case measure => simp; omega
      · obtain ⟨x, hx⟩ : ∃ x, zs.getD (n-1) 0 = x := ⟨_, rfl⟩
        rw [hx] at hc1 h1
        have hz' := hide hz
        have h1' := hide hx
        have h2' := hide h1
        have h1 : 0 < x := by omega
        clear hz hc hx
        go_wp2
        go_ret
        refine ⟨_, rfl, ?_, rfl⟩
        have hlim := limbs_strip zs n hn hlt hz'.out (Or.inr (by rw [h1'.out]; exact h2'.out))
        have hlen : (limbs (val zs)).length = n := by rw [hlim]; simp; omega
        refine ⟨some ⟨b, off, none⟩, cap, by rw [hlen]; rfl, by omega, by omega, limbs_lt _, ?_⟩
        rw [hlim]
        intro _
        obtain ⟨b', off', he, hb', hc'⟩ := U32.at hrd (k := n - 1) (by omega)
        cases he
        refine ⟨b, off, rfl, hb, fun j hj => ?_⟩
        have hjn : j < n := by simp at hj; omega
        rw [hc' j (by omega)]
        simp [List.getD, u32, List.getElem?_take_of_lt hjn, show j < zs.length by omega]
    · obtain rfl : n = 0 := by omega
      have hz' := hide hz
      clear hz
      go_wp2
      go_ret
      have hlim := limbs_strip zs 0 (by omega) hlt hz'.out (Or.inl rfl)
      have hlen : (limbs (val zs)).length = 0 := by rw [hlim]; simp
      refine ⟨_, rfl, ⟨A, cap, by rw [hlen]; rfl, by omega, by omega, limbs_lt _, ?_⟩, rfl⟩
      rw [hlim]
      intro h; simp at h


/-- made returns the Int of a sign and a size. -/
theorem made_any (neg : Bool) (v : Value) (n : Nat) (w : World) (hv : Mag w v n) :
    Calls Tryz.prog 110 #[.bool neg, v] w fun e w' => e = .returned (.agg #[.bool (neg && decide (0 < (limbs n).length)), v]) ∧ Ext w w' := by
  obtain ⟨A, cap, rfl, hcap, hm, hlt, hrd⟩ := hv
  have fin : Ext w (w.alloc (.cells #[.bool (neg && decide (0 < (limbs n).length)), .slice A (limbs n).length cap] 110)) := (Below.refl _ _).alloc (Nat.le_refl _) _
  cases neg
  · go_enter Tryz.func110, Tryz.ntmps110
    go_wp2
    exact bodyPost_ret (v := .agg #[.bool false, .slice A (limbs n).length cap]) (by simp [results, Tryz.results110, go_sem]) rfl ⟨by simp, by simpa using fin⟩
  · by_cases h0 : 0 < (limbs n).length
    all_goals
      go_enter Tryz.func110, Tryz.ntmps110
      go_wp2
      exact bodyPost_ret (v := .agg #[.bool (true && decide (0 < (limbs n).length)), .slice A (limbs n).length cap]) (by simp [results, Tryz.results110, go_sem, h0]) rfl ⟨rfl, by simpa [h0] using fin⟩

theorem decide_pos_limbs (n : Nat) : decide (0 < (limbs n).length) = decide (n ≠ 0) := by
  by_cases h : n = 0
  · subst h; rw [limbs_zero]; rfl
  · have : limbs n ≠ [] := fun e => h (limbs_eq_nil.1 e)
    have := List.length_pos_iff.2 this
    simp [h, this]

set_option maxHeartbeats 400000 in
theorem of_any (i : Int) (w : World) (h : -9223372036854775808 ≤ i) (h' : i ≤ 9223372036854775807) :
    Calls Tryz.prog 60 #[.int .i64 i] w fun e w' => ∃ v, e = .returned v ∧ IsInt w' v i ∧ Ext w w' := by
  obtain ⟨N, hN⟩ : ∃ N : Nat, i.natAbs = N := ⟨_, rfl⟩
  obtain ⟨lo, hlo⟩ : ∃ lo : Nat, N % 4294967296 = lo := ⟨_, rfl⟩
  obtain ⟨hi, hhi⟩ : ∃ hi : Nat, N / 4294967296 = hi := ⟨_, rfl⟩
  have hval : Hid (val [lo, hi] = i.natAbs) := by show lo + 4294967296 * (hi + 4294967296 * 0) = _; omega
  have h32 : Hid (∀ z ∈ [lo, hi], z < 4294967296) := by
    intro z hz; simp at hz; rcases hz with rfl | rfl <;> omega
  by_cases hneg : i < 0
  · have e1 : IntKind.u64.wrap (-IntKind.u64.wrap i) % 4294967296 = (lo : Int) := by simp only [IntKind.wrap_u64]; omega
    have e2 : IntKind.u64.wrap (-IntKind.u64.wrap i) / 4294967296 = (hi : Int) := by simp only [IntKind.wrap_u64]; omega
    have e3 : (hi : Int) % 4294967296 = hi := by omega
    have hs := hide hhi; have hl := hide hlo; have hN' := hide hN
    clear hhi hlo hN
    go_enter Tryz.func60, Tryz.ntmps60
    go_wp2_with fail
    generalize hW1 : ((w.alloc _).alloc _) = W1
    have B0 : Blk W1 w.heap.size 110 #[.bool false, .slice none 0 0] := by rw [← hW1]; exact (Blk.new _ _ _).alloc _
    have B1 : Blk W1 (w.heap.size + 1) 163 #[u32 lo, u32 hi] := by rw [← hW1]; rw [show w.heap.size + 1 = (w.alloc (.cells #[Value.bool false, Value.slice none 0 0] 110)).heap.size by simp]; exact Blk.new _ _ _
    have E1 : Ext w W1 := by rw [← hW1]; exact ((Below.refl _ _).alloc (Nat.le_refl _) _).alloc (by simp) _
    clear hW1
    refine (trim_any _ [lo, hi] W1 ⟨_, 2, rfl, by simp, by simp, h32.out, Rd.of_blk B1 0 _ (by intro j hj; simp)⟩).mono ?_
    rintro e w1 ⟨s, rfl, hmag, rfl⟩
    go_wp2_with fail
    refine (made_any _ _ _ _ hmag).mono ?_
    rintro e w2 ⟨rfl, E2⟩
    have B2 := B0.ext E2
    have c0 := B2.cell 0
    have c1 := B2.cell 1
    have f0 := B2.frozen 0
    have f1 := B2.frozen 1
    simp at c0 c1
    have st := st_any hmag.one
    go_wp2
    have B3 := (B2.set_ 0 (.bool (decide (0 < (limbs (val [lo, hi])).length)))).set_ 1 s
    have t3 : TyBlk w2 w.heap.size 110 := B2.ty
    refine bodyPost_ret (res2_run rfl rfl B3) rfl ⟨_, rfl, ⟨s, ?_, ?_⟩, ?_⟩
    · rw [decide_pos_limbs, hval.out]
      have h1 : decide (i.natAbs ≠ 0) = true := by simp; omega
      have h2 : decide (i < 0) = true := by simp; omega
      rw [h1, h2]
    · have := hmag.ext E2
      rw [hval.out] at this
      exact (this.store (p := ⟨w.heap.size, 0, none⟩) t3 (by decide) _).store (p := ⟨w.heap.size, 1, none⟩) (t3.setCell _ _) (by decide) _
    · exact ((E1.tr E2).setCell (Nat.le_refl _) _).setCell (Nat.le_refl _) _
  · have e0 : decide (i < 0) = false := by simp; omega
    have e1 : i % 4294967296 = (lo : Int) := by omega
    have e2 : i / 4294967296 = (hi : Int) := by omega
    have e3 : (hi : Int) % 4294967296 = hi := by omega
    have hs := hide hhi; have hl := hide hlo; have hN' := hide hN
    clear hhi hlo hN
    go_enter Tryz.func60, Tryz.ntmps60
    go_wp2_with fail
    generalize hW1 : ((w.alloc _).alloc _) = W1
    have B0 : Blk W1 w.heap.size 110 #[.bool false, .slice none 0 0] := by rw [← hW1]; exact (Blk.new _ _ _).alloc _
    have B1 : Blk W1 (w.heap.size + 1) 163 #[u32 lo, u32 hi] := by rw [← hW1]; rw [show w.heap.size + 1 = (w.alloc (.cells #[Value.bool false, Value.slice none 0 0] 110)).heap.size by simp]; exact Blk.new _ _ _
    have E1 : Ext w W1 := by rw [← hW1]; exact ((Below.refl _ _).alloc (Nat.le_refl _) _).alloc (by simp) _
    clear hW1
    refine (trim_any _ [lo, hi] W1 ⟨_, 2, rfl, by simp, by simp, h32.out, Rd.of_blk B1 0 _ (by intro j hj; simp)⟩).mono ?_
    rintro e w1 ⟨s, rfl, hmag, rfl⟩
    go_wp2_with fail
    refine (made_any _ _ _ _ hmag).mono ?_
    rintro e w2 ⟨rfl, E2⟩
    have B2 := B0.ext E2
    have c0 := B2.cell 0
    have c1 := B2.cell 1
    have f0 := B2.frozen 0
    have f1 := B2.frozen 1
    simp at c0 c1
    have st := st_any hmag.one
    go_wp2
    have B3 := (B2.set_ 0 (.bool (false))).set_ 1 s
    have t3 : TyBlk w2 w.heap.size 110 := B2.ty
    refine bodyPost_ret (res2_run rfl rfl B3) rfl ⟨_, rfl, ⟨s, ?_, ?_⟩, ?_⟩
    · rw [e0]
    · have := hmag.ext E2
      rw [hval.out] at this
      exact (this.store (p := ⟨w.heap.size, 0, none⟩) t3 (by decide) _).store (p := ⟨w.heap.size, 1, none⟩) (t3.setCell _ _) (by decide) _
    · exact ((E1.tr E2).setCell (Nat.le_refl _) _).setCell (Nat.le_refl _) _

end Go.Proofs.YtncabodphjkkfaaGreat
