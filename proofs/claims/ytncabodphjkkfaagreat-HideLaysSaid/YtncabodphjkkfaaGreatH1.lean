/- Rows of ints: the least, the greatest, the first that is alike; a floor's next place. Conditions: none. -/
import Derived.Test.YtncabodphjkkfaaGreatRep
import Derived.Test.YtncabodphjkkfaaGreatN4
namespace Go.Proofs.YtncabodphjkkfaaGreat
open Go.RowKit Go.Limbs

def ival (x : Int) : Value := .int .i64 x
/-- v is a slice of the ints xs. -/
def Ints (w : World) (v : Value) (xs : List Int) : Prop :=
  ∃ A cap, v = .slice A xs.length cap ∧ xs.length ≤ cap ∧ xs.length ≤ 1152921504606846976 ∧ Rd w 3 A (xs.map ival)
theorem Ints.ext {w w' : World} {v : Value} {xs : List Int} (h : Ints w v xs) (hb : Ext w w') : Ints w' v xs := by
  obtain ⟨A, cap, hv, h1, h2, h4⟩ := h
  exact ⟨A, cap, hv, h1, h2, h4.ext hb⟩
/-- One cell of ints. -/
theorem Ints.at {w : World} {A : Option Addr} {xs : List Int} (h : Rd w 3 A (xs.map ival)) {k : Nat} (hk : k < xs.length) :
    ∃ b off, A = some ⟨b, off, none⟩ ∧ TyBlk w b 3 ∧ ∀ j, j < xs.length → w.cell? ⟨b, off + j, none⟩ = some (.int .i64 (xs.getD j 0)) := by
  obtain ⟨b, off, hA, hb, hc⟩ := h (by intro e; simp at e; subst e; simp at hk)
  refine ⟨b, off, hA, hb, fun j hj => ?_⟩
  rw [hc j (by simpa using hj)]
  simp [List.getD, hj, ival]
/-- A block that holds just the ints xs. -/
def irow (xs : List Int) : Array Value := (xs.map ival).toArray
theorem Ints.of_blk {w : World} {g : Nat} {xs : List Int} (h : Blk w g 3 (irow xs)) (hl : xs.length ≤ 1152921504606846976) : Ints w (.slice (some ⟨g, 0, none⟩) xs.length xs.length) xs :=
  ⟨_, _, rfl, Nat.le_refl _, hl, Rd.of_blk h 0 _ fun j hj => by simp [irow]⟩

def IsMin (m : Int) (xs : List Int) : Prop := (∃ k, k < xs.length ∧ m = xs.getD k 0) ∧ ∀ j, j < xs.length → m ≤ xs.getD j 0
def IsMax (m : Int) (xs : List Int) : Prop := (∃ k, k < xs.length ∧ m = xs.getD k 0) ∧ ∀ j, j < xs.length → xs.getD j 0 ≤ m

theorem min_any (v : Value) (xs : List Int) (w : World) (hv : Ints w v xs) (hne : 0 < xs.length) :
    Calls Tryz.prog 48 #[v] w fun e w' => ∃ m, e = .returned (.int .i64 m) ∧ IsMin m xs ∧ w' = w := by
  obtain ⟨A, cap, rfl, hcap, hm, hrd⟩ := hv
  obtain ⟨b, off, rfl, hb, hc⟩ := Ints.at hrd hne
  have c0 := hc 0 hne
  rw [Nat.add_zero] at c0
  obtain ⟨x0, hx0⟩ : ∃ x, xs.getD 0 0 = x := ⟨_, rfl⟩
  rw [hx0] at c0
  have HX0 := hide hx0
  clear hx0
  have HC := hide hc
  clear hc
  go_enter Tryz.func48, Tryz.ntmps48
  go_wp2
  go_loop [3, 4] (fun m i => ∃ (k : Nat) (y : Int), 1 ≤ k ∧ k ≤ xs.length ∧ i = .int .i64 (k : Int) ∧ m = .int .i64 y ∧ (∃ j, j < k ∧ y = xs.getD j 0) ∧ ∀ j, j < k → y ≤ xs.getD j 0) (fun _ i => xs.length - (intOf i).toNat)
  case atStart =>
    refine ⟨1, _, Nat.le_refl _, hne, rfl, rfl, ⟨0, by omega, HX0.out.symm⟩, fun j hj => ?_⟩
    obtain rfl : j = 0 := by omega
    rw [HX0.out]
    exact Int.le_refl _
  case round =>
    obtain ⟨k, y, hk1, hk, rfl, rfl, hex, hle⟩ := hrel
    have HE := hide hex
    have HL := hide hle
    clear hex hle
    by_cases hlt : k < xs.length
    · have hc := HC.out k hlt
      obtain ⟨x, hx⟩ : ∃ x, xs.getD k 0 = x := ⟨_, rfl⟩
      rw [hx] at hc
      have HX := hide hx
      clear hx
      go_wp2
      go_round
      case rel =>
        refine ⟨k + 1, min y x, by omega, by omega, by go_num, by first | rfl | go_num, ?_, ?_⟩
        · obtain ⟨j, hj, e⟩ := HE.out
          rcases Int.le_total y x with h | h
          · exact ⟨j, by omega, by rw [Int.min_eq_left h]; exact e⟩
          · exact ⟨k, by omega, by rw [Int.min_eq_right h, HX.out]⟩
        · intro j hj
          rcases Nat.lt_or_ge j k with h | h
          · exact Int.le_trans (Int.min_le_left _ _) (HL.out j h)
          · obtain rfl : j = k := by omega
            rw [HX.out]
            exact Int.min_le_right _ _
      case measure => simp [intOf]; omega
    · obtain rfl : k = xs.length := by omega
      go_wp2
      go_ret
      exact ⟨y, rfl, ⟨HE.out, HL.out⟩, rfl⟩

theorem max_any (v : Value) (xs : List Int) (w : World) (hv : Ints w v xs) (hne : 0 < xs.length) :
    Calls Tryz.prog 49 #[v] w fun e w' => ∃ m, e = .returned (.int .i64 m) ∧ IsMax m xs ∧ w' = w := by
  obtain ⟨A, cap, rfl, hcap, hm, hrd⟩ := hv
  obtain ⟨b, off, rfl, hb, hc⟩ := Ints.at hrd hne
  have c0 := hc 0 hne
  rw [Nat.add_zero] at c0
  obtain ⟨x0, hx0⟩ : ∃ x, xs.getD 0 0 = x := ⟨_, rfl⟩
  rw [hx0] at c0
  have HX0 := hide hx0
  clear hx0
  have HC := hide hc
  clear hc
  go_enter Tryz.func49, Tryz.ntmps49
  go_wp2
  go_loop [3, 4] (fun m i => ∃ (k : Nat) (y : Int), 1 ≤ k ∧ k ≤ xs.length ∧ i = .int .i64 (k : Int) ∧ m = .int .i64 y ∧ (∃ j, j < k ∧ y = xs.getD j 0) ∧ ∀ j, j < k → xs.getD j 0 ≤ y) (fun _ i => xs.length - (intOf i).toNat)
  case atStart =>
    refine ⟨1, _, Nat.le_refl _, hne, rfl, rfl, ⟨0, by omega, HX0.out.symm⟩, fun j hj => ?_⟩
    obtain rfl : j = 0 := by omega
    rw [HX0.out]
    exact Int.le_refl _
  case round =>
    obtain ⟨k, y, hk1, hk, rfl, rfl, hex, hle⟩ := hrel
    have HE := hide hex
    have HL := hide hle
    clear hex hle
    by_cases hlt : k < xs.length
    · have hc := HC.out k hlt
      obtain ⟨x, hx⟩ : ∃ x, xs.getD k 0 = x := ⟨_, rfl⟩
      rw [hx] at hc
      have HX := hide hx
      clear hx
      go_wp2
      go_round
      case rel =>
        refine ⟨k + 1, max y x, by omega, by omega, by go_num, by first | rfl | go_num, ?_, ?_⟩
        · obtain ⟨j, hj, e⟩ := HE.out
          rcases Int.le_total y x with h | h
          · exact ⟨k, by omega, by rw [Int.max_eq_right h, HX.out]⟩
          · exact ⟨j, by omega, by rw [Int.max_eq_left h]; exact e⟩
        · intro j hj
          rcases Nat.lt_or_ge j k with h | h
          · exact Int.le_trans (HL.out j h) (Int.le_max_left _ _)
          · obtain rfl : j = k := by omega
            rw [HX.out]
            exact Int.le_max_right _ _
      case measure => simp [intOf]; omega
    · obtain rfl : k = xs.length := by omega
      go_wp2
      go_ret
      exact ⟨y, rfl, ⟨HE.out, HL.out⟩, rfl⟩

theorem index_any (v : Value) (xs : List Int) (x : Int) (w : World) (hv : Ints w v xs) (hx : ∃ k, k < xs.length ∧ x = xs.getD k 0) :
    Calls Tryz.prog 96 #[v, .int .i64 x] w fun e w' => ∃ k : Nat, e = .returned (.int .i64 (k : Int)) ∧ k < xs.length ∧ xs.getD k 0 = x ∧ (∀ j, j < k → xs.getD j 0 ≠ x) ∧ w' = w := by
  obtain ⟨A, cap, rfl, hcap, hm, hrd⟩ := hv
  obtain ⟨k0, hk0, hx0⟩ := hx
  obtain ⟨b, off, rfl, hb, hc⟩ := Ints.at hrd hk0
  have HC := hide hc
  have HK := hide (⟨k0, hk0, hx0⟩ : ∃ k, k < xs.length ∧ x = xs.getD k 0)
  clear hc hx0 hk0
  go_enter Tryz.func96, Tryz.ntmps96
  go_wp2
  go_loop [8] (fun i => ∃ (k : Nat), k ≤ xs.length ∧ i = .int .i64 (k : Int) ∧ ∀ j, j < k → xs.getD j 0 ≠ x) (fun i => xs.length - (intOf i).toNat)
  case atStart => exact ⟨0, Nat.zero_le _, rfl, fun j hj => by omega⟩
  case round =>
    obtain ⟨k, hk, rfl, hle⟩ := hrel
    have HL := hide hle
    clear hle
    by_cases hlt : k < xs.length
    · have hc := HC.out k hlt
      obtain ⟨y, hy⟩ : ∃ y, xs.getD k 0 = y := ⟨_, rfl⟩
      rw [hy] at hc
      have HY := hide hy
      clear hy
      by_cases hxy : x = y
      · subst hxy
        go_wp2
        go_ret
        exact ⟨k, rfl, hlt, HY.out, HL.out, rfl⟩
      · have hd : (x == y) = false := by simp [hxy]
        go_wp2
        go_round
        case rel =>
          refine ⟨k + 1, by omega, by go_num, fun j hj => ?_⟩
          rcases Nat.lt_or_ge j k with h | h
          · exact HL.out j h
          · obtain rfl : j = k := by omega
            rw [HY.out]; exact fun e => hxy e.symm
        case measure => simp [intOf]; omega
    · exfalso
      obtain ⟨k1, h1, h2⟩ := HK.out
      exact HL.out k1 (by omega) h2.symm

/-- The cells from at on, n of them, are greater by d. -/
def addTo (xs : List Int) (at_ n : Nat) (d : Int) : List Int := xs.mapIdx fun i x => if at_ ≤ i ∧ i < at_ + n then x + d else x
theorem addTo_length (xs : List Int) (a n : Nat) (d : Int) : (addTo xs a n d).length = xs.length := by simp [addTo]
theorem addTo_get (xs : List Int) (a n : Nat) (d : Int) (j : Nat) (hj : j < xs.length) : (addTo xs a n d).getD j 0 = if a ≤ j ∧ j < a + n then xs.getD j 0 + d else xs.getD j 0 := by
  simp [addTo, List.getD, hj]
theorem addTo_zero (xs : List Int) (a : Nat) (d : Int) : addTo xs a 0 d = xs := by
  apply List.ext_getElem?
  intro i
  simp only [addTo, List.getElem?_mapIdx]
  have : ¬ (a ≤ i ∧ i < a + 0) := by omega
  cases h : xs[i]? <;> simp
  intro h1 h2; omega
theorem addTo_succ (xs : List Int) (a n : Nat) (d : Int) (h : a + n < xs.length) : (addTo xs a n d).set (a + n) (xs.getD (a + n) 0 + d) = addTo xs a (n + 1) d := by
  apply List.ext_getElem?
  intro i
  rw [List.getElem?_set]
  simp only [addTo, List.getElem?_mapIdx, List.length_mapIdx]
  by_cases hi : a + n = i
  · subst hi
    have h1 : a ≤ a + n ∧ a + n < a + (n + 1) := by omega
    simp [h, h1, List.getD]
  · have h1 : (a ≤ i ∧ i < a + n) ↔ (a ≤ i ∧ i < a + (n + 1)) := by omega
    rw [if_neg hi]
    simp only [h1]
theorem irow_get {xs : List Int} {k : Nat} (h : k < xs.length) : (irow xs)[k]? = some (.int .i64 (xs.getD k 0)) := by
  simp [irow, h, ival, List.getD]
theorem irow_set (xs : List Int) (k : Nat) (x : Int) : (irow xs).setIfInBounds k (.int .i64 x) = irow (xs.set k x) := by
  simp [irow, List.map_set, ival]

set_option maxHeartbeats 1000000 in
theorem put_any (g : Nat) (xs : List Int) (a n : Nat) (d : Int) (w : World) (hB : Blk w g 3 (irow xs)) (han : a + n ≤ xs.length) (hm : xs.length ≤ 1152921504606846976) (hr : ∀ j, j < xs.length → -4611686018427387904 ≤ xs.getD j 0 ∧ xs.getD j 0 ≤ 4611686018427387903)
    (hd : -4611686018427387904 ≤ d ∧ d ≤ 4611686018427387903) :
    Calls Tryz.prog 47 #[.slice (some ⟨g, 0, none⟩) xs.length xs.length, .int .i64 (a : Int), .int .i64 (n : Int), .int .i64 d] w fun e w' => e = .returned (.tuple #[]) ∧ Blk w' g 3 (irow (addTo xs a n d)) ∧ w.grownBy w' (some g) := by
  have HR := hide hr
  have HD := hide hd
  clear hr hd
  go_enter Tryz.func47, Tryz.ntmps47
  go_wp2
  go_loopw [8] (fun i wr => ∃ (k : Nat), k ≤ n ∧ i = .int .i64 ((a + k : Nat) : Int) ∧ Blk wr g 3 (irow (addTo xs a k d)) ∧ w.grownBy wr (some g)) (fun i _ => a + n - (intOf i).toNat)
  case atStart => exact ⟨0, Nat.zero_le _, rfl, by rw [addTo_zero]; exact hB, grown_refl _ _⟩
  case round =>
    obtain ⟨k, hk, rfl, hBk, hG⟩ := hrel
    by_cases hlt : k < n
    · have hc : wr.cell? ⟨g, a + k, none⟩ = some (.int .i64 (xs.getD (a + k) 0)) := by
        rw [hBk.cell, irow_get (by rw [addTo_length]; omega), addTo_get _ _ _ _ _ (by omega), if_neg (by omega)]
      have hf := hBk.frozen (a + k)
      obtain ⟨x, hx⟩ : ∃ x, xs.getD (a + k) 0 = x := ⟨_, rfl⟩
      have hb1 := HR.out (a + k) (by omega)
      have hb2 := HD.out
      have hset : Blk (wr.setCell ⟨g, a + k, none⟩ (.int .i64 (x + d))) g 3 (irow (addTo xs a (k + 1) d)) := by
        have h := hBk.set_ (a + k) (.int .i64 (x + d))
        rw [irow_set, ← hx, addTo_succ _ _ _ _ (by omega)] at h
        rw [← hx]; exact h
      have hG2 := grown_set hG (a + k) (.int .i64 (x + d))
      rw [hx] at hc hb1
      have hr1 : -9223372036854775808 ≤ x + d ∧ x + d ≤ 9223372036854775807 := by omega
      obtain ⟨i, hi⟩ : ∃ i, a + k = i := ⟨_, rfl⟩
      rw [hi] at hc hf hset hG2 ⊢
      have HI := hide hi
      have hl1 : i < xs.length := by omega
      have hl2 : (i : Int) < (a : Int) + n := by omega
      clear hi hb1 hb2 hx hBk hG
      go_wp2
      go_roundw
      case rel => exact ⟨k + 1, by omega, by rw [← HI.out]; go_num, hset, hG2⟩
      case measure => simp [intOf]; omega
    · obtain rfl : k = n := by omega
      go_wp2
      go_end0
      exact ⟨rfl, hBk, hG⟩

end Go.Proofs.YtncabodphjkkfaaGreat
