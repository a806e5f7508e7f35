/- Sizes multiplied and divided by powers of two. Conditions: none. -/
import Derived.Test.YtncabodphjkkfaaGreatN4
namespace Go.Proofs.YtncabodphjkkfaaGreat
open Go.RowKit Go.Limbs

theorem row_set_last {ds : List Nat} {m : Nat} (c x : Nat) : (row (ds ++ [c]) m).setIfInBounds ds.length (.int .u32 (x : Int)) = row (ds ++ [x]) m := by
  simp [row, u32, List.map_append]

theorem getD_tail (ds : List Nat) (c m j : Nat) (h : ds.length < j) : (ds ++ [c] ++ List.replicate m 0).getD j 0 = 0 := by
  rw [List.getD, List.getElem?_append_right (by simp; omega)]
  rw [List.getElem?_replicate]
  split <;> rfl
theorem getD_tail0 (ds : List Nat) (m j : Nat) (h : ds.length ≤ j) : (ds ++ List.replicate m 0).getD j 0 = 0 := by
  rw [List.getD, List.getElem?_append_right h, List.getElem?_replicate]
  split <;> rfl

theorem up_facts (x cy s : Nat) (hx : x < 4294967296) (hs : s < 32) (hcy : cy < 2 ^ s) :
    ∃ lo hi : Nat, IntKind.u64.wrap ((x : Int) * 2 ^ s) % 4294967296 = (lo : Int) ∧ IntKind.u64.wrap ((x : Int) * 2 ^ s) / 4294967296 = (hi : Int) ∧ bits .or .u32 (cy : Int) (lo : Int) = ((lo + cy : Nat) : Int) ∧
      lo + cy < 4294967296 ∧ hi < 2 ^ s ∧ lo + 4294967296 * hi = x * 2 ^ s := by
  have hp : (2 : Nat) ^ s ≤ 2 ^ 31 := Nat.pow_le_pow_right (by omega) (by omega)
  have hdiv : (2 : Nat) ^ 32 = 2 ^ s * 2 ^ (32 - s) := by rw [← Nat.pow_add]; congr 1; omega
  have hpos := Nat.two_pow_pos s
  obtain ⟨p, hpe⟩ : ∃ p, 2 ^ s = p := ⟨_, rfl⟩
  have hb : x * p < 18446744073709551616 := by
    have : x * p ≤ 4294967295 * 2147483648 := Nat.mul_le_mul (by omega) (by rw [← hpe]; omega)
    omega
  have hcast : (x : Int) * 2 ^ s = ((x * p : Nat) : Int) := by
    rw [Int.natCast_mul, ← hpe, Int.natCast_pow]; rfl
  have hlo : (x * p) % 4294967296 % p = 0 := by
    rw [show (4294967296 : Nat) = p * 2 ^ (32 - s) by rw [← hpe, ← hdiv], Nat.mod_mul_right_mod]; exact Nat.mul_mod_left x p
  refine ⟨(x * p) % 4294967296, (x * p) / 4294967296, ?_, ?_, ?_, ?_, ?_, ?_⟩
  · rw [hcast, IntKind.wrap_u64]; omega
  · rw [hcast, IntKind.wrap_u64]; omega
  · rw [u32_or_nat _ _ (by omega) (by omega), Nat.or_comm, nat_join s _ _ (by rw [hpe]; exact hlo) hcy]
  · have h1 := nat_join s ((x * p) % 4294967296) cy (by rw [hpe]; exact hlo) hcy
    rw [← h1]
    have e32 : (4294967296 : Nat) = 2 ^ 32 := by decide
    rw [e32]
    exact Nat.or_lt_two_pow (by omega) (by omega)
  · rw [hpe]
    apply Nat.div_lt_of_lt_mul
    have : x * p < 4294967296 * p := Nat.mul_lt_mul_of_pos_right hx (by omega)
    exact this
  · rw [hpe]; omega

theorem up_val (x lo hi cy D V p s2 : Nat) (h : D + p * cy = V * s2) (h2 : lo + 4294967296 * hi = x * s2) : D + p * (lo + cy + 4294967296 * 0) + p * 4294967296 * hi = (V + p * x) * s2 := by
  have : p * (lo + 4294967296 * hi) = p * (x * s2) := by rw [h2]
  rw [Nat.add_mul, ← h, Nat.mul_zero, Nat.add_zero, Nat.mul_add, Nat.mul_assoc, Nat.mul_assoc]
  rw [Nat.mul_add] at this
  omega

set_option maxHeartbeats 1000000 in
theorem up_u32 (va : Value) (xs : List Nat) (s : Nat) (w : World) (ha : U32 w va xs) (hs : s < 32) (hsz : xs.length ≤ 35184372088832) :
    Calls Tryz.prog 139 #[va, .int .i64 (s : Int)] w fun e w' => ∃ os g, os.length = xs.length + 1 ∧ e = .returned (.slice (some ⟨g, 0, none⟩) (xs.length + 1) (xs.length + 1)) ∧ (∀ z ∈ os, z < 4294967296) ∧ val os = val xs * 2 ^ s ∧ w.heap.size ≤ g ∧ Blk w' g 163 (rowL os) ∧ Ext w w' := by
  obtain ⟨A, ca, rfl, hca, hma, hla, hra⟩ := ha
  have hmk := mk_u32 (xs.length + 1) (xs.length + 1) (by omega) (by omega)
  go_enter Tryz.func139, Tryz.ntmps139
  go_wp2_with fail
  go_loopw [15] (fun i wr => ∃ (k : Nat) (ds : List Nat) (cy : Nat), k ≤ xs.length ∧ i = .int .i64 (k : Int) ∧ ds.length = k ∧ (∀ z ∈ ds, z < 4294967296) ∧ cy < 2 ^ s ∧
      val ds + 4294967296 ^ k * cy = val (xs.take k) * 2 ^ s ∧ Blk wr w.heap.size 163 (row (ds ++ [cy]) (xs.length - k)) ∧ Below w.heap.size w wr) (fun i _ => xs.length - (intOf i).toNat)
  case atStart => exact ⟨0, [], 0, Nat.zero_le _, rfl, rfl, by simp, Nat.two_pow_pos s, by simp [val], Blk.new _ _ _, (Below.refl _ _).alloc (Nat.le_refl _) _⟩
  case round =>
    obtain ⟨k, ds, cy, hk, rfl, hdl, hdlt, hcy, hval, hB, hE⟩ := hrel
    by_cases hlt : k < xs.length
    · obtain ⟨b, off, rfl, hbt, hc⟩ := U32.at hra hlt
      obtain ⟨x, hx⟩ : ∃ x, xs.getD k 0 = x := ⟨_, rfl⟩
      have hc1 : wr.cell? ⟨b, off + k, none⟩ = some (.int .u32 (x : Int)) := by rw [← hx]; exact (hE.cell (p := ⟨b, off + k, none⟩) hbt.lt).trans (hc k hlt)
      have hxl : x < 4294967296 := by rw [← hx]; exact getD_lt hla k
      have hX := hide hx; have hV := hide hval; have hL := hide hdl; have hD := hide hdlt
      clear hx hc hval hdl hdlt
      have hcell : wr.cell? ⟨w.heap.size, k, none⟩ = some (.int .u32 (cy : Int)) := by
        rw [hB.cell, row_get (by have := hL.out; simp; omega)]
        have := hL.out
        simp [List.getD, ← this]
      have hfr := hB.frozen k
      obtain ⟨lo, hi, f1, f2, f3, f4, f5, f6⟩ := up_facts x cy s hxl hs hcy
      obtain ⟨d, hd⟩ : ∃ d, lo + cy = d := ⟨_, rfl⟩
      rw [hd] at f3 f4
      have f7 : (hi : Int) % 4294967296 = (hi : Int) := by
        have hp : (2 : Nat) ^ s ≤ 2 ^ 31 := Nat.pow_le_pow_right (by omega) (by omega)
        omega
      have HD := hide hd
      clear hd
      obtain ⟨n, hn⟩ : ∃ n, xs.length - k = n + 1 := ⟨xs.length - k - 1, by omega⟩
      have hcell2 : wr.cell? ⟨w.heap.size, k + 1, none⟩ = some (.int .u32 ((0 : Nat) : Int)) := by
        rw [hB.cell, row_get (by have := hL.out; simp; omega), getD_tail _ _ _ _ (by have := hL.out; omega)]
      have hfr2 := hB.frozen (k + 1)
      rw [hn] at hB
      have hN := hide hn
      have hset : Blk ((wr.setCell ⟨w.heap.size, k, none⟩ (.int .u32 (d : Int))).setCell ⟨w.heap.size, k + 1, none⟩ (.int .u32 (hi : Int))) w.heap.size 163 (row ((ds ++ [d]) ++ [hi]) n) := by
        have h1 := hB.set_ k (.int .u32 (d : Int))
        have h2 := row_set_last (ds := ds) (m := n + 1) cy d
        rw [hL.out] at h2
        rw [h2] at h1
        have h3 := h1.set_ (k + 1) (.int .u32 (hi : Int))
        have h4 := row_set (ds := ds ++ [d]) (m := n) hi
        rw [show (ds ++ [d]).length = k + 1 by simp [hL.out]] at h4
        rw [h4] at h3
        exact h3
      have hE2 := (hE.setCell (p := ⟨w.heap.size, k, none⟩) (Nat.le_refl _) (.int .u32 (d : Int))).setCell (p := ⟨w.heap.size, k + 1, none⟩) (Nat.le_refl _) (.int .u32 (hi : Int))
      have hF6 := hide f6
      clear hB hn f6
      go_wp2_with fail
      go_roundw
      case rel =>
        refine ⟨k + 1, ds ++ [d], hi, by omega, by go_num, by simp [hL.out], ?_, f5, ?_, by rw [show xs.length - (k + 1) = n by have := hN.out; omega]; exact hset, hE2⟩
        · intro z hz
          rcases List.mem_append.1 hz with h | h
          · exact hD.out z h
          · simp at h; omega
        · rw [val_take_succ, hX.out, val_append, hL.out, Nat.pow_succ, val, val, ← HD.out]
          exact up_val x lo hi cy _ _ _ _ hV.out hF6.out
      case measure => simp [intOf]; omega
    · obtain rfl : k = xs.length := by omega
      have hV := hide hval; have hL := hide hdl; have hD := hide hdlt
      clear hval hdl hdlt
      go_wp2
      go_ret
      rw [show xs.length - xs.length = 0 by omega] at hB
      refine ⟨ds ++ [cy], w.heap.size, by simp [hL.out], rfl, ?_, ?_, Nat.le_refl _, by simpa [row, rowL] using hB, hE⟩
      · intro z hz
        rcases List.mem_append.1 hz with h | h
        · exact hD.out z h
        · have hp : (2 : Nat) ^ s ≤ 2 ^ 31 := Nat.pow_le_pow_right (by omega) (by omega)
          simp at h; omega
      · have h := hV.out
        rw [List.take_of_length_le (Nat.le_refl _)] at h
        rw [← h, val_append, hL.out, val, val, Nat.mul_zero, Nat.add_zero]

theorem val_div_pow (xs : List Nat) (hx : ∀ z ∈ xs, z < 4294967296) (k : Nat) (hk : k ≤ xs.length) : val xs / 4294967296 ^ k = val (xs.drop k) := by
  have h1 := val_lt (xs.take k) (fun z hz => hx z (List.mem_of_mem_take hz))
  have h2 : (xs.take k).length = k := by simp; omega
  conv => lhs; rw [← List.take_append_drop k xs]
  rw [val_append, h2]
  rw [h2] at h1
  rw [Nat.add_mul_div_left _ _ (Nat.pow_pos (by omega)), Nat.div_eq_of_lt h1, Nat.zero_add]

theorem down_digit (x y R p c : Nat) (h : p * c = 4294967296) (hp : 0 < p) : (x + 4294967296 * (y + 4294967296 * R)) / p % 4294967296 = (x + y * 4294967296) / p % 4294967296 := by
  have e : x + 4294967296 * (y + 4294967296 * R) = (x + y * 4294967296) + p * (c * 4294967296 * R) := by
    rw [Nat.mul_add, ← Nat.mul_assoc p, ← Nat.mul_assoc p c, h]; omega
  rw [e, Nat.add_mul_div_left _ _ hp, Nat.mul_assoc, Nat.mul_left_comm, Nat.add_mul_mod_self_left]

theorem down_facts (x y s : Nat) (hx : x < 4294967296) (hy : y < 4294967296) :
    bits .or .u64 (x : Int) ((y : Int) * 4294967296) = ((x + y * 4294967296 : Nat) : Int) ∧ ∀ t : Nat, (t : Int) / 2 ^ s = ((t / 2 ^ s : Nat) : Int) := by
  constructor
  · have h1 := u64_or_nat x (y * 4294967296) (by omega) (by omega)
    rw [Nat.or_comm, nat_join 32 (y * 4294967296) x (by omega) (by omega), Int.natCast_mul] at h1
    rw [Nat.add_comm] at h1
    exact h1
  · intro t
    rw [Int.natCast_ediv, Int.natCast_pow]; rfl

set_option maxHeartbeats 1000000 in
theorem down_u32 (va : Value) (xs : List Nat) (s : Nat) (w : World) (ha : U32 w va xs) (hs : s < 32) (hsz : xs.length ≤ 35184372088832) :
    Calls Tryz.prog 141 #[va, .int .i64 (s : Int)] w fun e w' => ∃ v', e = .returned v' ∧ Mag w' v' (val xs / 2 ^ s) ∧ Ext w w' := by
  obtain ⟨A, ca, rfl, hca, hma, hla, hra⟩ := ha
  have hmk := mk_u32 xs.length xs.length rfl (by omega)
  go_enter Tryz.func141, Tryz.ntmps141
  go_wp2_with fail
  go_loopw [13] (fun i wr => ∃ (k : Nat) (ds : List Nat), k ≤ xs.length ∧ i = .int .i64 (k : Int) ∧ ds.length = k ∧ (∀ z ∈ ds, z < 4294967296) ∧
      val ds = val xs / 2 ^ s % 4294967296 ^ k ∧ Blk wr w.heap.size 163 (row ds (xs.length - k)) ∧ Below w.heap.size w wr) (fun i _ => xs.length - (intOf i).toNat)
  case atStart => exact ⟨0, [], Nat.zero_le _, rfl, rfl, by simp, by rw [Nat.pow_zero, Nat.mod_one]; rfl, Blk.new _ _ _, (Below.refl _ _).alloc (Nat.le_refl _) _⟩
  case round =>
    obtain ⟨k, ds, hk, rfl, hdl, hdlt, hval, hB, hE⟩ := hrel
    by_cases hlt : k < xs.length
    · obtain ⟨b, off, rfl, hbt, hc⟩ := U32.at hra hlt
      obtain ⟨x, hx⟩ : ∃ x, xs.getD k 0 = x := ⟨_, rfl⟩
      obtain ⟨y, hy⟩ : ∃ y, xs.getD (k + 1) 0 = y := ⟨_, rfl⟩
      have hc1 : wr.cell? ⟨b, off + k, none⟩ = some (.int .u32 (x : Int)) := by rw [← hx]; exact (hE.cell (p := ⟨b, off + k, none⟩) hbt.lt).trans (hc k hlt)
      have hc2 : k + 1 < xs.length → wr.cell? ⟨b, off + (k + 1), none⟩ = some (.int .u32 (y : Int)) := by rw [← hy]; exact fun h => (hE.cell (p := ⟨b, off + (k + 1), none⟩) hbt.lt).trans (hc (k + 1) h)
      have hxl : x < 4294967296 := by rw [← hx]; exact getD_lt hla k
      have hyl : y < 4294967296 := by rw [← hy]; exact getD_lt hla _
      obtain ⟨t, ht⟩ : ∃ t, x + y * 4294967296 = t := ⟨_, rfl⟩
      obtain ⟨q, hq⟩ : ∃ q, t / 2 ^ s % 4294967296 = q := ⟨_, rfl⟩
      have hql : q < 4294967296 := by rw [← hq]; exact Nat.mod_lt _ (by omega)
      obtain ⟨f1, f2⟩ := down_facts x y s hxl hyl
      rw [ht] at f1
      have f3 : (t : Int) / 2 ^ s % 4294967296 = (q : Int) := by rw [f2, ← hq]; omega
      have hstep : Hid (val (ds ++ [q]) = val xs / 2 ^ s % 4294967296 ^ (k + 1)) := by
        show val (ds ++ [q]) = _
        rw [Nat.mod_pow_succ, ← hval, val_append, hdl, val, val, Nat.mul_zero, Nat.add_zero]
        congr 2
        rw [Nat.div_div_eq_div_mul, Nat.mul_comm, ← Nat.div_div_eq_div_mul, val_div_pow xs hla k hk, drop_pred xs k hlt, hx, val]
        have hdr : val (xs.drop (k + 1)) = y + 4294967296 * val (xs.drop (k + 2)) := by
          by_cases h : k + 1 < xs.length
          · rw [drop_pred xs (k + 1) h, hy, val]
          · have hy0 : y = 0 := by rw [← hy]; simp [List.getD, h]
            rw [List.drop_eq_nil_of_le (by omega), List.drop_eq_nil_of_le (by omega), hy0]; rfl
        rw [hdr, down_digit x y _ (2 ^ s) (2 ^ (32 - s)) (by rw [← Nat.pow_add, show s + (32 - s) = 32 by omega]) (Nat.two_pow_pos s), ht, hq]
      have hL := hide hdl; have hD := hide hdlt; have hY := hide hy; have hT := hide ht
      clear hx hy hc hval hdl hdlt ht hq f2
      obtain ⟨n, hn⟩ : ∃ n, xs.length - k = n + 1 := ⟨xs.length - k - 1, by omega⟩
      have hcell : wr.cell? ⟨w.heap.size, k, none⟩ = some (.int .u32 ((0 : Nat) : Int)) := by
        rw [hB.cell, row_get (by have := hL.out; omega), getD_tail0 _ _ _ (by have := hL.out; omega)]
      have hfr := hB.frozen k
      rw [hn] at hB
      have hN := hide hn
      have hset : Blk (wr.setCell ⟨w.heap.size, k, none⟩ (.int .u32 (q : Int))) w.heap.size 163 (row (ds ++ [q]) n) := by
        have h1 := hB.set_ k (.int .u32 (q : Int))
        have h2 := row_set (ds := ds) (m := n) q
        rw [hL.out] at h2
        rw [h2] at h1
        exact h1
      have hE2 := hE.setCell (p := ⟨w.heap.size, k, none⟩) (Nat.le_refl _) (.int .u32 (q : Int))
      clear hB hn
      by_cases hk1 : k + 1 < xs.length
      · have hc3 := hc2 hk1
        clear hc2
        go_wp2_with fail
        go_roundw
        case rel =>
          refine ⟨k + 1, ds ++ [q], by omega, by go_num, by simp [hL.out], ?_, hstep.out, by rw [show xs.length - (k + 1) = n by have := hN.out; omega]; exact hset, hE2⟩
          intro z hz
          rcases List.mem_append.1 hz with h | h
          · exact hD.out z h
          · simp at h; omega
        case measure => simp [intOf]; omega
      · have hy0 : y = 0 := by rw [← hY.out]; simp [List.getD, hk1]
        have hxt : x = t := by have := hT.out; omega
        subst hxt
        clear hc2 f1 hy0
        go_wp2_with fail
        go_roundw
        case rel =>
          refine ⟨k + 1, ds ++ [q], by omega, by go_num, by simp [hL.out], ?_, hstep.out, by rw [show xs.length - (k + 1) = n by have := hN.out; omega]; exact hset, hE2⟩
          intro z hz
          rcases List.mem_append.1 hz with h | h
          · exact hD.out z h
          · simp at h; omega
        case measure => simp [intOf]; omega
    · obtain rfl : k = xs.length := by omega
      have hU : U32 wr (.slice (some ⟨w.heap.size, 0, none⟩) xs.length xs.length) ds := by
        rw [show xs.length - xs.length = 0 by omega] at hB
        refine ⟨_, _, by rw [hdl], by omega, by omega, hdlt, Rd.of_blk hB 0 _ ?_⟩
        intro j hj; simp [row]
      have hV := hide hval
      clear hB hval hdl hdlt
      go_wp2_with (go_at_call 111; refine (trim_any _ _ _ hU).mono ?_; rintro e w' ⟨v', rfl, hmag, rfl⟩)
      go_ret
      refine ⟨_, rfl, ?_, hE⟩
      have h := hV.out
      rw [Nat.mod_eq_of_lt] at h
      · rw [← h]; exact hmag
      · exact Nat.lt_of_le_of_lt (Nat.div_le_self _ _) (val_lt xs hla)

end Go.Proofs.YtncabodphjkkfaaGreat
