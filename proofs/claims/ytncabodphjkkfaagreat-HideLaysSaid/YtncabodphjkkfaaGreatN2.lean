/- Sums, differences and products of sizes. Conditions: none. -/
import Derived.Test.YtncabodphjkkfaaGreatN1
namespace Go.Proofs.YtncabodphjkkfaaGreat
open Go.RowKit Go.Limbs

theorem run_make_rowN {P : Program} (t e : TypeId) (i : TypeInfo) (z : Value) (ht : P.underlying t = some (.slice e)) (hi : P.info? e = some i) (hz : i.zero = some z)
    (kl kc : IntKind) (n c : Nat) (hnc : n ≤ c) (hbytes : i.bytes * c ≤ 281474976710656) (h63 : c ≤ 9223372036854775807) (w : World) :
    (Instr.makeSlice t (.int kl (n : Int)) (.int kc (c : Int))).run P w = .ok (.slice (some ⟨w.heap.size, 0, none⟩) n c) (w.alloc (.cells (madeCells z.cells (c * i.size)) e)) := by
  have hb : (i.bytes : Int) * (c : Int) ≤ 281474976710656 := by
    have h : ((i.bytes * c : Nat) : Int) ≤ 281474976710656 := by omega
    rwa [Int.natCast_mul] at h
  have hr := run_make (P := P) w t e i z ht hi hz kl kc n c (by omega) (by omega) hb (by omega)
  simp only [Int.toNat_natCast] at hr
  exact hr

theorem info163 : (Tryz.prog.info? 163).map (fun i => (i.zero, i.size, i.bytes)) = some (some (.int .u32 0), 1, 4) := by kernel_rfl

theorem madeCells_one (v : Value) (h : v.cells = #[v]) (n : Nat) : madeCells v.cells (n * 1) = (List.replicate n v).toArray := by
  rw [h]
  unfold madeCells
  apply Array.ext
  · simp
  · intro i h1 h2
    simp [Nat.mod_one]

theorem list_getD_eq (l : List Nat) (k : Nat) (h : k < l.length) : l.getD k 0 = l[k] := by simp [List.getD, h]
/-- The digits written so far, and noughts. -/
def row (ds : List Nat) (m : Nat) : Array Value := ((ds ++ List.replicate m 0).map u32).toArray
theorem row_zero (m : Nat) : ((List.replicate m 0).map u32).toArray = row [] m := by simp [row]
theorem row_size (ds : List Nat) (m : Nat) : (row ds m).size = ds.length + m := by simp [row]
theorem row_get {ds : List Nat} {m k : Nat} (h : k < ds.length + m) : (row ds m)[k]? = some (.int .u32 (((ds ++ List.replicate m 0).getD k 0 : Nat) : Int)) := by
  have h' : k < (ds ++ List.replicate m 0).length := by simpa using h
  simp only [row, List.getElem?_toArray, List.getElem?_map, List.getElem?_eq_getElem h', Option.map_some, u32]
  rw [list_getD_eq _ _ h']
theorem row_set {ds : List Nat} {m : Nat} (x : Nat) : (row ds (m + 1)).setIfInBounds ds.length (.int .u32 (x : Int)) = row (ds ++ [x]) m := by
  simp [row, List.replicate_succ, u32, List.map_append]

theorem mk_u32 (n : Nat) (N : Int) (hN : N = n) (hb : n ≤ 70368744177664) : ∀ W : World, (Instr.makeSlice 108 (.int .i64 N) (.int .i64 N)).run Tryz.prog W =
    .ok (.slice (some ⟨W.heap.size, 0, none⟩) n n) (W.alloc (.cells (row [] n) 163)) := fun W => by
  obtain ⟨i0, hi, hz0, hz1, hz2⟩ := info_parts info163
  subst hN
  rw [run_make_rowN (P := Tryz.prog) 108 163 i0 _ Tryz.underlying108 hi hz0 .i64 .i64 n n (Nat.le_refl _) (by rw [hz2]; omega) (by omega) W, hz1, madeCells_one _ rfl]
  simp [u32, row]

theorem val_take_succ (l : List Nat) (k : Nat) : val (l.take (k + 1)) = val (l.take k) + 4294967296 ^ k * l.getD k 0 := by
  by_cases h : k < l.length
  · rw [List.take_succ_eq_append_getElem h, val_append]
    have : (l.take k).length = k := by simp; omega
    rw [this, list_getD_eq l k h]
    simp [val]
  · have e1 : l.take (k + 1) = l := List.take_of_length_le (by omega)
    have e2 : l.take k = l := List.take_of_length_le (by omega)
    rw [e1, e2]; simp [List.getD, h]

theorem plus_step (x y c A B D p : Nat) (h : D + p * c = A + B) :
    (D + p * ((x + y + c) % 4294967296)) + p * 4294967296 * ((x + y + c) / 4294967296) = (A + p * x) + (B + p * y) := by
  have h1 := Nat.mod_add_div (x + y + c) 4294967296
  have : p * ((x + y + c) % 4294967296) + p * 4294967296 * ((x + y + c) / 4294967296) = p * x + p * y + p * c := by
    rw [Nat.mul_assoc, ← Nat.mul_add, h1]; simp [Nat.mul_add]
  omega

set_option maxHeartbeats 1000000 in
theorem plus_long (va vb : Value) (xs ys : List Nat) (w : World) (ha : U32 w va xs) (hb : U32 w vb ys) (hlen : ys.length ≤ xs.length) (hsz : xs.length ≤ 35184372088832) :
    Calls Tryz.prog 142 #[va, vb] w fun e w' => ∃ v', e = .returned v' ∧ Mag w' v' (val xs + val ys) ∧ Ext w w' := by
  obtain ⟨A, ca, rfl, hca, hma, hla, hra⟩ := ha
  obtain ⟨B, cb, rfl, hcb, hmb, hlb, hrb⟩ := hb
  have hnl : ¬ xs.length < ys.length := by omega
  have hmk := mk_u32 (xs.length + 1) (xs.length + 1) (by omega) (by omega)
  go_enter Tryz.func142, Tryz.ntmps142
  go_wp2_with fail
  go_loopw [6, 22] (fun c i wr => ∃ (k : Nat) (ds : List Nat) (cy : Nat), k ≤ xs.length ∧ i = .int .i64 (k : Int) ∧ c = .int .u32 (cy : Int) ∧ cy ≤ 1 ∧ ds.length = k ∧ (∀ z ∈ ds, z < 4294967296) ∧
      val ds + 4294967296 ^ k * cy = val (xs.take k) + val (ys.take k) ∧ Blk wr w.heap.size 163 (row ds (xs.length + 1 - k)) ∧ Below w.heap.size w wr) (fun _ i _ => xs.length - (intOf i).toNat)
  case atStart => exact ⟨0, [], 0, Nat.zero_le _, rfl, rfl, by omega, rfl, by simp, by simp [val], Blk.new _ _ _, (Below.refl _ _).alloc (Nat.le_refl _) _⟩
  case round =>
    obtain ⟨k, ds, cy, hk, rfl, rfl, hcy, hdl, hdlt, hval, hB, hE⟩ := hrel
    by_cases hlt : k < xs.length
    · obtain ⟨b, off, rfl, hbt, hc⟩ := U32.at hra hlt
      obtain ⟨x, hx⟩ : ∃ x, xs.getD k 0 = x := ⟨_, rfl⟩
      have hc1 : wr.cell? ⟨b, off + k, none⟩ = some (.int .u32 (x : Int)) := by rw [← hx]; exact (hE.cell (p := ⟨b, off + k, none⟩) hbt.lt).trans (hc k hlt)
      have hxl : x < 4294967296 := by rw [← hx, list_getD_eq _ _ hlt]; exact hla _ (List.getElem_mem _)
      have hX := hide hx; have hV := hide hval; have hL := hide hdl; have hD := hide hdlt
      clear hx hc hval hdl hdlt
      obtain ⟨n, hn⟩ : ∃ n, xs.length + 1 - k = n + 1 := ⟨xs.length - k, by omega⟩
      rw [hn] at hB
      have hN := hide hn
      have hcell : wr.cell? ⟨w.heap.size, k, none⟩ = some (.int .u32 ((0 : Nat) : Int)) := by
        rw [hB.cell, row_get (by have := hL.out; omega)]
        have := hL.out
        simp [List.getD, ← this]
      have hfr := hB.frozen k
      clear hn
      by_cases hy : k < ys.length
      · obtain ⟨b', off', rfl, hbt', hc'⟩ := U32.at hrb hy
        obtain ⟨y, hy'⟩ : ∃ y, ys.getD k 0 = y := ⟨_, rfl⟩
        have hc2 : wr.cell? ⟨b', off' + k, none⟩ = some (.int .u32 (y : Int)) := by rw [← hy']; exact (hE.cell (p := ⟨b', off' + k, none⟩) hbt'.lt).trans (hc' k hy)
        have hyl : y < 4294967296 := by rw [← hy', list_getD_eq _ _ hy]; exact hlb _ (List.getElem_mem _)
        have hY := hide hy'
        clear hy' hc'
        go_wp2_with (go_at_call 176; refine (add32_any x y cy _ (by omega) (by omega) (by omega)).mono ?_; rintro e w' ⟨rfl, rfl⟩)
        go_roundw
        case rel =>
          have hLk := hL.out
          refine ⟨k + 1, ds ++ [(x + y + cy) % 4294967296], (x + y + cy) / 4294967296, by omega, by go_num, by go_num, by omega, by simp [hLk], ?_, ?_, ?_, ?_⟩
          · intro z hz
            rcases List.mem_append.1 hz with h | h
            · exact hD.out z h
            · simp at h; omega
          · rw [val_take_succ, val_take_succ, hX.out, hY.out, val_append, hLk, Nat.pow_succ, val, val, Nat.mul_zero, Nat.add_zero]
            exact plus_step x y cy _ _ _ _ hV.out
          · have h1 := hB.set_ k (.int .u32 (((x + y + cy) % 4294967296 : Nat) : Int))
            rw [show xs.length + 1 - (k + 1) = n by have := hN.out; omega]
            have h2 := row_set (ds := ds) (m := n) ((x + y + cy) % 4294967296)
            rw [hLk] at h2
            rw [h2] at h1
            exact h1
          · exact hE.setCell (Nat.le_refl _) _
        case measure => simp [intOf]; omega
      · have hyz : Hid (ys.getD k 0 = 0) := by show ys.getD k 0 = 0; simp [List.getD, show ¬ k < ys.length by omega]
        go_wp2_with (go_at_call 176; refine (add32_any x 0 cy _ (by omega) (by omega) (by omega)).mono ?_; rintro e w' ⟨rfl, rfl⟩)
        go_roundw
        case rel =>
          have hLk := hL.out
          refine ⟨k + 1, ds ++ [(x + 0 + cy) % 4294967296], (x + 0 + cy) / 4294967296, by omega, by go_num, by go_num, by omega, by simp [hLk], ?_, ?_, ?_, ?_⟩
          · intro z hz
            rcases List.mem_append.1 hz with h | h
            · exact hD.out z h
            · simp at h; omega
          · rw [val_take_succ, val_take_succ, hX.out, hyz.out, val_append, hLk, Nat.pow_succ, val, val, Nat.mul_zero, Nat.add_zero]
            exact plus_step x 0 cy _ _ _ _ hV.out
          · have h1 := hB.set_ k (.int .u32 (((x + 0 + cy) % 4294967296 : Nat) : Int))
            rw [show xs.length + 1 - (k + 1) = n by have := hN.out; omega]
            have h2 := row_set (ds := ds) (m := n) ((x + 0 + cy) % 4294967296)
            rw [hLk] at h2
            rw [h2] at h1
            exact h1
          · exact hE.setCell (Nat.le_refl _) _
        case measure => simp [intOf]; omega
    · obtain rfl : k = xs.length := by omega
      have hV := hide hval; have hL := hide hdl; have hD := hide hdlt
      clear hval hdl hdlt
      rw [show xs.length + 1 - xs.length = 0 + 1 by omega] at hB
      have hcell : wr.cell? ⟨w.heap.size, xs.length, none⟩ = some (.int .u32 ((0 : Nat) : Int)) := by
        rw [hB.cell, row_get (by have := hL.out; omega)]
        have := hL.out
        simp [List.getD, ← this]
      have hfr := hB.frozen xs.length
      have hB2 : Blk (wr.setCell ⟨w.heap.size, xs.length, none⟩ (.int .u32 (cy : Int))) w.heap.size 163 (row (ds ++ [cy]) 0) := by
        have h1 := hB.set_ xs.length (.int .u32 (cy : Int))
        have h2 := row_set (ds := ds) (m := 0) cy
        rw [hL.out] at h2
        rw [h2] at h1
        exact h1
      have hE2 : Below w.heap.size w (wr.setCell ⟨w.heap.size, xs.length, none⟩ (.int .u32 (cy : Int))) := hE.setCell (Nat.le_refl _) _
      have hU : U32 (wr.setCell ⟨w.heap.size, xs.length, none⟩ (.int .u32 (cy : Int))) (.slice (some ⟨w.heap.size, 0, none⟩) (xs.length + 1) (xs.length + 1)) (ds ++ [cy]) := by
        have hl : (ds ++ [cy]).length = xs.length + 1 := by simp [hL.out]
        refine ⟨_, _, by rw [hl], by omega, by omega, ?_, Rd.of_blk hB2 0 _ ?_⟩
        · intro z hz
          rcases List.mem_append.1 hz with h | h
          · exact hD.out z h
          · simp at h; omega
        · intro j hj; simp [row]
      have hvv : Hid (val (ds ++ [cy]) = val xs + val ys) := by
        show val (ds ++ [cy]) = val xs + val ys
        rw [val_append, hL.out, val, val, Nat.mul_zero, Nat.add_zero, hV.out, List.take_of_length_le (Nat.le_refl _), List.take_of_length_le (by omega)]
      clear hB hB2
      go_wp2_with (go_at_call 111; refine (trim_any _ _ _ hU).mono ?_; rintro e w' ⟨v', rfl, hmag, rfl⟩)
      go_ret
      exact ⟨_, rfl, by rw [← hvv.out]; exact hmag, hE2⟩

set_option maxHeartbeats 1000000 in
theorem plus_short (va vb : Value) (xs ys : List Nat) (w : World) (ha : U32 w va xs) (hb : U32 w vb ys) (hlen : ys.length < xs.length) (hsz : xs.length ≤ 35184372088832) :
    Calls Tryz.prog 142 #[vb, va] w fun e w' => ∃ v', e = .returned v' ∧ Mag w' v' (val xs + val ys) ∧ Ext w w' := by
  obtain ⟨A, ca, rfl, hca, hma, hla, hra⟩ := ha
  obtain ⟨B, cb, rfl, hcb, hmb, hlb, hrb⟩ := hb
  have hmk := mk_u32 (xs.length + 1) (xs.length + 1) (by omega) (by omega)
  go_enter Tryz.func142, Tryz.ntmps142
  go_wp2_with fail
  go_loopw [6, 22] (fun c i wr => ∃ (k : Nat) (ds : List Nat) (cy : Nat), k ≤ xs.length ∧ i = .int .i64 (k : Int) ∧ c = .int .u32 (cy : Int) ∧ cy ≤ 1 ∧ ds.length = k ∧ (∀ z ∈ ds, z < 4294967296) ∧
      val ds + 4294967296 ^ k * cy = val (xs.take k) + val (ys.take k) ∧ Blk wr w.heap.size 163 (row ds (xs.length + 1 - k)) ∧ Below w.heap.size w wr) (fun _ i _ => xs.length - (intOf i).toNat)
  case atStart => exact ⟨0, [], 0, Nat.zero_le _, rfl, rfl, by omega, rfl, by simp, by simp [val], Blk.new _ _ _, (Below.refl _ _).alloc (Nat.le_refl _) _⟩
  case round =>
    obtain ⟨k, ds, cy, hk, rfl, rfl, hcy, hdl, hdlt, hval, hB, hE⟩ := hrel
    by_cases hlt : k < xs.length
    · obtain ⟨b, off, rfl, hbt, hc⟩ := U32.at hra hlt
      obtain ⟨x, hx⟩ : ∃ x, xs.getD k 0 = x := ⟨_, rfl⟩
      have hc1 : wr.cell? ⟨b, off + k, none⟩ = some (.int .u32 (x : Int)) := by rw [← hx]; exact (hE.cell (p := ⟨b, off + k, none⟩) hbt.lt).trans (hc k hlt)
      have hxl : x < 4294967296 := by rw [← hx, list_getD_eq _ _ hlt]; exact hla _ (List.getElem_mem _)
      have hX := hide hx; have hV := hide hval; have hL := hide hdl; have hD := hide hdlt
      clear hx hc hval hdl hdlt
      obtain ⟨n, hn⟩ : ∃ n, xs.length + 1 - k = n + 1 := ⟨xs.length - k, by omega⟩
      rw [hn] at hB
      have hN := hide hn
      have hcell : wr.cell? ⟨w.heap.size, k, none⟩ = some (.int .u32 ((0 : Nat) : Int)) := by
        rw [hB.cell, row_get (by have := hL.out; omega)]
        have := hL.out
        simp [List.getD, ← this]
      have hfr := hB.frozen k
      clear hn
      by_cases hy : k < ys.length
      · obtain ⟨b', off', rfl, hbt', hc'⟩ := U32.at hrb hy
        obtain ⟨y, hy'⟩ : ∃ y, ys.getD k 0 = y := ⟨_, rfl⟩
        have hc2 : wr.cell? ⟨b', off' + k, none⟩ = some (.int .u32 (y : Int)) := by rw [← hy']; exact (hE.cell (p := ⟨b', off' + k, none⟩) hbt'.lt).trans (hc' k hy)
        have hyl : y < 4294967296 := by rw [← hy', list_getD_eq _ _ hy]; exact hlb _ (List.getElem_mem _)
        have hY := hide hy'
        clear hy' hc'
        go_wp2_with (go_at_call 176; refine (add32_any x y cy _ (by omega) (by omega) (by omega)).mono ?_; rintro e w' ⟨rfl, rfl⟩)
        go_roundw
        case rel =>
          have hLk := hL.out
          refine ⟨k + 1, ds ++ [(x + y + cy) % 4294967296], (x + y + cy) / 4294967296, by omega, by go_num, by go_num, by omega, by simp [hLk], ?_, ?_, ?_, ?_⟩
          · intro z hz
            rcases List.mem_append.1 hz with h | h
            · exact hD.out z h
            · simp at h; omega
          · rw [val_take_succ, val_take_succ, hX.out, hY.out, val_append, hLk, Nat.pow_succ, val, val, Nat.mul_zero, Nat.add_zero]
            exact plus_step x y cy _ _ _ _ hV.out
          · have h1 := hB.set_ k (.int .u32 (((x + y + cy) % 4294967296 : Nat) : Int))
            rw [show xs.length + 1 - (k + 1) = n by have := hN.out; omega]
            have h2 := row_set (ds := ds) (m := n) ((x + y + cy) % 4294967296)
            rw [hLk] at h2
            rw [h2] at h1
            exact h1
          · exact hE.setCell (Nat.le_refl _) _
        case measure => simp [intOf]; omega
      · have hyz : Hid (ys.getD k 0 = 0) := by show ys.getD k 0 = 0; simp [List.getD, show ¬ k < ys.length by omega]
        go_wp2_with (go_at_call 176; refine (add32_any x 0 cy _ (by omega) (by omega) (by omega)).mono ?_; rintro e w' ⟨rfl, rfl⟩)
        go_roundw
        case rel =>
          have hLk := hL.out
          refine ⟨k + 1, ds ++ [(x + 0 + cy) % 4294967296], (x + 0 + cy) / 4294967296, by omega, by go_num, by go_num, by omega, by simp [hLk], ?_, ?_, ?_, ?_⟩
          · intro z hz
            rcases List.mem_append.1 hz with h | h
            · exact hD.out z h
            · simp at h; omega
          · rw [val_take_succ, val_take_succ, hX.out, hyz.out, val_append, hLk, Nat.pow_succ, val, val, Nat.mul_zero, Nat.add_zero]
            exact plus_step x 0 cy _ _ _ _ hV.out
          · have h1 := hB.set_ k (.int .u32 (((x + 0 + cy) % 4294967296 : Nat) : Int))
            rw [show xs.length + 1 - (k + 1) = n by have := hN.out; omega]
            have h2 := row_set (ds := ds) (m := n) ((x + 0 + cy) % 4294967296)
            rw [hLk] at h2
            rw [h2] at h1
            exact h1
          · exact hE.setCell (Nat.le_refl _) _
        case measure => simp [intOf]; omega
    · obtain rfl : k = xs.length := by omega
      have hV := hide hval; have hL := hide hdl; have hD := hide hdlt
      clear hval hdl hdlt
      rw [show xs.length + 1 - xs.length = 0 + 1 by omega] at hB
      have hcell : wr.cell? ⟨w.heap.size, xs.length, none⟩ = some (.int .u32 ((0 : Nat) : Int)) := by
        rw [hB.cell, row_get (by have := hL.out; omega)]
        have := hL.out
        simp [List.getD, ← this]
      have hfr := hB.frozen xs.length
      have hB2 : Blk (wr.setCell ⟨w.heap.size, xs.length, none⟩ (.int .u32 (cy : Int))) w.heap.size 163 (row (ds ++ [cy]) 0) := by
        have h1 := hB.set_ xs.length (.int .u32 (cy : Int))
        have h2 := row_set (ds := ds) (m := 0) cy
        rw [hL.out] at h2
        rw [h2] at h1
        exact h1
      have hE2 : Below w.heap.size w (wr.setCell ⟨w.heap.size, xs.length, none⟩ (.int .u32 (cy : Int))) := hE.setCell (Nat.le_refl _) _
      have hU : U32 (wr.setCell ⟨w.heap.size, xs.length, none⟩ (.int .u32 (cy : Int))) (.slice (some ⟨w.heap.size, 0, none⟩) (xs.length + 1) (xs.length + 1)) (ds ++ [cy]) := by
        have hl : (ds ++ [cy]).length = xs.length + 1 := by simp [hL.out]
        refine ⟨_, _, by rw [hl], by omega, by omega, ?_, Rd.of_blk hB2 0 _ ?_⟩
        · intro z hz
          rcases List.mem_append.1 hz with h | h
          · exact hD.out z h
          · simp at h; omega
        · intro j hj; simp [row]
      have hvv : Hid (val (ds ++ [cy]) = val xs + val ys) := by
        show val (ds ++ [cy]) = val xs + val ys
        rw [val_append, hL.out, val, val, Nat.mul_zero, Nat.add_zero, hV.out, List.take_of_length_le (Nat.le_refl _), List.take_of_length_le (by omega)]
      clear hB hB2
      go_wp2_with (go_at_call 111; refine (trim_any _ _ _ hU).mono ?_; rintro e w' ⟨v', rfl, hmag, rfl⟩)
      go_ret
      exact ⟨_, rfl, by rw [← hvv.out]; exact hmag, hE2⟩

theorem plus_any (va vb : Value) (a b : Nat) (w : World) (ha : Mag w va a) (hb : Mag w vb b) (hsa : (limbs a).length ≤ 35184372088832) (hsb : (limbs b).length ≤ 35184372088832) :
    Calls Tryz.prog 142 #[va, vb] w fun e w' => ∃ v', e = .returned v' ∧ Mag w' v' (a + b) ∧ Ext w w' := by
  by_cases h : (limbs b).length ≤ (limbs a).length
  · have := plus_long va vb _ _ w ha hb h hsa
    rwa [val_limbs, val_limbs] at this
  · have := plus_short vb va _ _ w hb ha (by omega) hsb
    rw [val_limbs, val_limbs, Nat.add_comm] at this
    exact this

theorem minus_step (x y c A B D p : Nat) (hx : x < 4294967296) (hy : y < 4294967296) (hc : c ≤ 1) (h : D + B = A + p * c) :
    (D + p * ((x + 4294967296 - y - c) % 4294967296)) + (B + p * y) = (A + p * x) + p * 4294967296 * borrow x y c := by
  have h1 : (x + 4294967296 - y - c) % 4294967296 + y + c = x + 4294967296 * borrow x y c := by unfold borrow; split <;> omega
  have h2 : p * ((x + 4294967296 - y - c) % 4294967296) + p * y + p * c = p * x + p * (4294967296 * borrow x y c) := by
    rw [← Nat.mul_add, ← Nat.mul_add, h1, Nat.mul_add]
  rw [← Nat.mul_assoc] at h2
  omega

set_option maxHeartbeats 1000000 in
theorem minus_long (va vb : Value) (xs ys : List Nat) (w : World) (ha : U32 w va xs) (hb : U32 w vb ys) (hlen : ys.length ≤ xs.length) (hsz : xs.length ≤ 35184372088832) (hle : val ys ≤ val xs) :
    Calls Tryz.prog 143 #[va, vb] w fun e w' => ∃ v', e = .returned v' ∧ Mag w' v' (val xs - val ys) ∧ Ext w w' := by
  obtain ⟨A, ca, rfl, hca, hma, hla, hra⟩ := ha
  obtain ⟨B, cb, rfl, hcb, hmb, hlb, hrb⟩ := hb
  have hmk := mk_u32 xs.length xs.length rfl (by omega)
  go_enter Tryz.func143, Tryz.ntmps143
  go_wp2_with fail
  go_loopw [6, 14] (fun c i wr => ∃ (k : Nat) (ds : List Nat) (cy : Nat), k ≤ xs.length ∧ i = .int .i64 (k : Int) ∧ c = .int .u32 (cy : Int) ∧ cy ≤ 1 ∧ ds.length = k ∧ (∀ z ∈ ds, z < 4294967296) ∧
      val ds + val (ys.take k) = val (xs.take k) + 4294967296 ^ k * cy ∧ Blk wr w.heap.size 163 (row ds (xs.length - k)) ∧ Below w.heap.size w wr) (fun _ i _ => xs.length - (intOf i).toNat)
  case atStart => exact ⟨0, [], 0, Nat.zero_le _, rfl, rfl, by omega, rfl, by simp, by simp [val], Blk.new _ _ _, (Below.refl _ _).alloc (Nat.le_refl _) _⟩
  case round =>
    obtain ⟨k, ds, cy, hk, rfl, rfl, hcy, hdl, hdlt, hval, hB, hE⟩ := hrel
    by_cases hlt : k < xs.length
    · obtain ⟨b, off, rfl, hbt, hc⟩ := U32.at hra hlt
      obtain ⟨x, hx⟩ : ∃ x, xs.getD k 0 = x := ⟨_, rfl⟩
      have hc1 : wr.cell? ⟨b, off + k, none⟩ = some (.int .u32 (x : Int)) := by rw [← hx]; exact (hE.cell (p := ⟨b, off + k, none⟩) hbt.lt).trans (hc k hlt)
      have hxl : x < 4294967296 := by rw [← hx, list_getD_eq _ _ hlt]; exact hla _ (List.getElem_mem _)
      have hX := hide hx; have hV := hide hval; have hL := hide hdl; have hD := hide hdlt
      clear hx hc hval hdl hdlt
      obtain ⟨n, hn⟩ : ∃ n, xs.length - k = n + 1 := ⟨xs.length - k - 1, by omega⟩
      rw [hn] at hB
      have hN := hide hn
      have hcell : wr.cell? ⟨w.heap.size, k, none⟩ = some (.int .u32 ((0 : Nat) : Int)) := by
        rw [hB.cell, row_get (by have := hL.out; omega)]
        have := hL.out
        simp [List.getD, ← this]
      have hfr := hB.frozen k
      clear hn
      by_cases hy : k < ys.length
      · obtain ⟨b', off', rfl, hbt', hc'⟩ := U32.at hrb hy
        obtain ⟨y, hy'⟩ : ∃ y, ys.getD k 0 = y := ⟨_, rfl⟩
        have hc2 : wr.cell? ⟨b', off' + k, none⟩ = some (.int .u32 (y : Int)) := by rw [← hy']; exact (hE.cell (p := ⟨b', off' + k, none⟩) hbt'.lt).trans (hc' k hy)
        have hyl : y < 4294967296 := by rw [← hy', list_getD_eq _ _ hy]; exact hlb _ (List.getElem_mem _)
        have hY := hide hy'
        clear hy' hc'
        go_wp2_with (go_at_call 175; refine (sub32_any x y cy _ (by omega) (by omega) (by omega)).mono ?_; rintro e w' ⟨rfl, rfl⟩)
        go_roundw
        case rel =>
          have hLk := hL.out
          refine ⟨k + 1, ds ++ [(x + 4294967296 - y - cy) % 4294967296], borrow x y cy, by omega, by go_num, by go_num, borrow_le _ _ _, by simp [hLk], ?_, ?_, ?_, ?_⟩
          · intro z hz
            rcases List.mem_append.1 hz with h | h
            · exact hD.out z h
            · simp at h; omega
          · rw [val_take_succ, val_take_succ, hX.out, hY.out, val_append, hLk, Nat.pow_succ, val, val, Nat.mul_zero, Nat.add_zero]
            exact minus_step x y cy _ _ _ _ hxl hyl hcy hV.out
          · have h1 := hB.set_ k (.int .u32 (((x + 4294967296 - y - cy) % 4294967296 : Nat) : Int))
            rw [show xs.length - (k + 1) = n by have := hN.out; omega]
            have h2 := row_set (ds := ds) (m := n) ((x + 4294967296 - y - cy) % 4294967296)
            rw [hLk] at h2
            rw [h2] at h1
            exact h1
          · exact hE.setCell (Nat.le_refl _) _
        case measure => simp [intOf]; omega
      · have hyz : Hid (ys.getD k 0 = 0) := by show ys.getD k 0 = 0; simp [List.getD, show ¬ k < ys.length by omega]
        go_wp2_with (go_at_call 175; refine (sub32_any x 0 cy _ (by omega) (by omega) (by omega)).mono ?_; rintro e w' ⟨rfl, rfl⟩)
        go_roundw
        case rel =>
          have hLk := hL.out
          refine ⟨k + 1, ds ++ [(x + 4294967296 - 0 - cy) % 4294967296], borrow x 0 cy, by omega, by go_num, by go_num, borrow_le _ _ _, by simp [hLk], ?_, ?_, ?_, ?_⟩
          · intro z hz
            rcases List.mem_append.1 hz with h | h
            · exact hD.out z h
            · simp at h; omega
          · rw [val_take_succ, val_take_succ, hX.out, hyz.out, val_append, hLk, Nat.pow_succ, val, val, Nat.mul_zero, Nat.add_zero]
            exact minus_step x 0 cy _ _ _ _ hxl (by omega) hcy hV.out
          · have h1 := hB.set_ k (.int .u32 (((x + 4294967296 - 0 - cy) % 4294967296 : Nat) : Int))
            rw [show xs.length - (k + 1) = n by have := hN.out; omega]
            have h2 := row_set (ds := ds) (m := n) ((x + 4294967296 - 0 - cy) % 4294967296)
            rw [hLk] at h2
            rw [h2] at h1
            exact h1
          · exact hE.setCell (Nat.le_refl _) _
        case measure => simp [intOf]; omega
    · obtain rfl : k = xs.length := by omega
      have hV := hide hval; have hL := hide hdl; have hD := hide hdlt
      clear hval hdl hdlt
      rw [show xs.length - xs.length = 0 by omega] at hB
      have hU : U32 wr (.slice (some ⟨w.heap.size, 0, none⟩) xs.length xs.length) ds := by
        refine ⟨_, _, by rw [hL.out], by have := hL.out; omega, by have := hL.out; omega, hD.out, Rd.of_blk hB 0 _ ?_⟩
        intro j hj; simp [row]
      have hvv : Hid (val ds = val xs - val ys) := by
        show val ds = val xs - val ys
        have h1 := hV.out
        rw [List.take_of_length_le (Nat.le_refl _), List.take_of_length_le (by omega)] at h1
        have h2 := val_lt ds hD.out
        rw [hL.out] at h2
        have hcy0 : cy = 0 := by
          rcases Nat.eq_zero_or_pos cy with h | h
          · exact h
          · have : cy = 1 := by omega
            rw [this, Nat.mul_one] at h1; omega
        rw [hcy0, Nat.mul_zero] at h1; omega
      clear hB
      go_wp2_with (go_at_call 111; refine (trim_any _ _ _ hU).mono ?_; rintro e w' ⟨v', rfl, hmag, rfl⟩)
      go_ret
      exact ⟨_, rfl, by rw [← hvv.out]; exact hmag, hE⟩

theorem minus_any (va vb : Value) (a b : Nat) (w : World) (ha : Mag w va a) (hb : Mag w vb b) (hsa : (limbs a).length ≤ 35184372088832) (h : b ≤ a) :
    Calls Tryz.prog 143 #[va, vb] w fun e w' => ∃ v', e = .returned v' ∧ Mag w' v' (a - b) ∧ Ext w w' := by
  have := minus_long va vb _ _ w ha hb (limbs_length_mono h) hsa (by rw [val_limbs, val_limbs]; exact h)
  rwa [val_limbs, val_limbs] at this

end Go.Proofs.YtncabodphjkkfaaGreat
