/- Order and equality of rows. Conditions: none. -/
import Derived.Test.YtncabodphjkkfaaGreatN18
import Derived.Test.YtncabodphjkkfaaGreatH6
namespace Go.Proofs.YtncabodphjkkfaaGreat
open Go.RowKit Go.Limbs Go.Shelf

theorem Strs.at {w : World} {A : Option Addr} {xs : List (List UInt8)} (h : Rd w 52 A (xs.map bstr)) {k : Nat} (hk : k < xs.length) :
    ∃ b off, A = some ⟨b, off, none⟩ ∧ TyBlk w b 52 ∧ ∀ j, j < xs.length → w.cell? ⟨b, off + j, none⟩ = some (bstr (xs.getD j [])) := by
  obtain ⟨b, off, hA, hb, hc⟩ := h (by intro e; simp at e; subst e; simp at hk)
  refine ⟨b, off, hA, hb, fun j hj => ?_⟩
  rw [hc j (by simpa using hj)]
  simp [List.getD, hj]

set_option maxRecDepth 100000 in
set_option maxHeartbeats 1000000 in
theorem sameRow_any (va vb : Value) (l r : List (List UInt8)) (w : World) (ha : Strs w va l) (hb : Strs w vb r) :
    Calls Tryz.prog 50 #[va, vb] w fun e w' => e = .returned (.bool (decide (l = r))) ∧ Ext w w' := by
  obtain ⟨A, ca, rfl, hca, hma, hra⟩ := ha
  obtain ⟨B, cb, rfl, hcb, hmb, hrb⟩ := hb
  have HRa := hide hra; have HRb := hide hrb
  clear hra hrb
  by_cases hlen : l.length = r.length
  · have t1 : ((l.length : Int) != (r.length : Int)) = false := by simp [hlen]
    have HL := hide hlen
    go_enter Tryz.func50, Tryz.ntmps50
    clear hlen
    go_wp2_with fail
    go_loopw [5] (fun i wr => ∃ (k q : Nat), k ≤ l.length ∧ i = .int .i64 (k : Int) ∧ (∀ j, j < k → l.getD j [] = r.getD j []) ∧ wr = w.drewN q) (fun i _ => l.length - (intOf i).toNat)
    case atStart => exact ⟨0, 0, Nat.zero_le _, rfl, fun j hj => by omega, rfl⟩
    case round =>
      obtain ⟨k, q, hk, rfl, hall, rfl⟩ := hrel
      have HAll := hide hall
      clear hall
      by_cases hlt : k < l.length
      · obtain ⟨b, off, rfl, hbt, hc⟩ := Strs.at HRa.out hlt
        have hlr : k < r.length := by have := HL.out; omega
        obtain ⟨b', off', rfl, hbt', hc'⟩ := Strs.at HRb.out hlr
        have a0 := hc k hlt
        have b0 := hc' k hlr
        obtain ⟨x, hx⟩ : ∃ p, l.getD k [] = p := ⟨_, rfl⟩
        obtain ⟨y, hy⟩ : ∃ p, r.getD k [] = p := ⟨_, rfl⟩
        rw [hx] at a0
        rw [hy] at b0
        have HX := hide hx; have HY := hide hy
        have i2 : (k : Int) < (r.length : Int) := by omega
        clear hx hy hc hc'
        obtain ⟨X, hX⟩ : ∃ X : ByteArray, X = ⟨x.toArray⟩ := ⟨_, rfl⟩
        obtain ⟨Y, hY⟩ : ∃ Y : ByteArray, Y = ⟨y.toArray⟩ := ⟨_, rfl⟩
        rw [bstr, ← hX] at a0
        rw [bstr, ← hY] at b0
        by_cases he : X = Y
        · have hxy : x = y := by
            have h := hX.symm.trans (he.trans hY)
            injection h with h; injection h
          have HXY := hide hxy
          subst he
          clear hX hY hxy
          go_wp2_with fail
          go_quiet (fail)
          go_wp2_with fail
          go_roundw
          case rel =>
            refine ⟨k + 1, _, by omega, by go_num, fun j hj => ?_, by first | rfl | rw [World.drewN_drewN]⟩
            rcases Nat.lt_or_ge j k with h | h
            · exact HAll.out j h
            · obtain rfl : j = k := by omega
              rw [HX.out, HY.out, HXY.out]
          case measure => simp [intOf]; omega
        · have HNe : Hid (l ≠ r) := by
            show _ ≠ _
            intro e
            apply he
            rw [hX, hY, ← HX.out, ← HY.out, e]
          have h3 : (X.toList == Y.toList) = false := by
            rw [beq_eq_false_iff_ne]
            intro e
            rw [hX, hY, ByteArray.toList_mk, ByteArray.toList_mk] at e
            exact he (by rw [hX, hY, e])
          clear hX hY
          go_wp2_with fail
          go_quiet (fail)
          go_wp2
          go_ret
          exact ⟨by rw [decide_eq_false HNe.out]; rfl, by first | exact below_drewN (below_drewN (Below.refl _ _) _) _ | exact below_drewN (Below.refl _ _) _⟩
      · obtain rfl : k = l.length := by omega
        go_wp2
        go_ret
        have heq : l = r := by
          refine List.ext_getElem HL.out fun j h1 h2 => ?_
          have := HAll.out j h1
          rwa [List.getD, List.getD, List.getElem?_eq_getElem h1, List.getElem?_eq_getElem h2] at this
        exact ⟨by rw [decide_eq_true heq]; rfl, below_drewN (Below.refl _ _) _⟩
  · have t1 : ((l.length : Int) != (r.length : Int)) = true := by simp; omega
    have e : decide (l = r) = false := decide_eq_false fun e => hlen (by rw [e])
    rw [e]
    clear hlen e
    go_enter Tryz.func50, Tryz.ntmps50
    go_wp2
    go_ret
    exact ⟨rfl, Ext.rfl' _⟩

end Go.Proofs.YtncabodphjkkfaaGreat

namespace Go.Proofs.YtncabodphjkkfaaGreat
open Go.RowKit Go.Limbs Go.Shelf

/-- Row l comes ahead of row r. -/
def bef : List Int → List Int → Bool
  | _, [] => false
  | [], _ :: _ => true
  | x :: l, y :: r => if x = y then bef l r else decide (x < y)
theorem drop_getD (l : List Int) (k : Nat) (h : k < l.length) : l.drop k = l.getD k 0 :: l.drop (k + 1) := by
  rw [List.drop_eq_getElem_cons h]; simp [List.getD, h]
theorem bef_drop (l r : List Int) (k : Nat) (h1 : k < l.length) (h2 : k < r.length) : bef (l.drop k) (r.drop k) = if l.getD k 0 = r.getD k 0 then bef (l.drop (k + 1)) (r.drop (k + 1)) else decide (l.getD k 0 < r.getD k 0) := by
  rw [drop_getD l k h1, drop_getD r k h2]; rfl
theorem bef_end (l r : List Int) (k : Nat) (h : k = l.length ∨ k = r.length) (h1 : k ≤ l.length) (h2 : k ≤ r.length) : bef (l.drop k) (r.drop k) = decide (l.length < r.length) := by
  rcases h with rfl | rfl
  · rw [List.drop_length]
    by_cases hlt : l.length < r.length
    · rw [drop_getD r _ hlt, decide_eq_true (by omega)]; rfl
    · rw [List.drop_of_length_le (by omega), decide_eq_false (by omega)]; rfl
  · rw [List.drop_length, decide_eq_false (by omega)]
    cases l.drop r.length <;> rfl
theorem bef_both (l : List Int) : ∀ r, (!bef l r && !bef r l) = decide (l = r) := by
  induction l with
  | nil => intro r; cases r <;> simp [bef]
  | cons x l ih =>
    intro r
    cases r with
    | nil => simp [bef]
    | cons y r =>
      by_cases h : x = y
      · subst h; simp only [bef, if_pos, ih r]; simp
      · have h' : ¬ y = x := fun e => h e.symm
        have : x < y ∨ y < x := by omega
        rw [bef, bef, if_neg h, if_neg h']
        rcases this with c | c
        · simp [c, h]
        · simp [c, h]

set_option maxRecDepth 100000 in
set_option maxHeartbeats 1000000 in
theorem before_any (va vb : Value) (l r : List Int) (w : World) (ha : Ints w va l) (hb : Ints w vb r) :
    Calls Tryz.prog 90 #[va, vb] w fun e w' => e = .returned (.bool (bef l r)) ∧ Ext w w' := by
  obtain ⟨A, ca, rfl, hca, hma, hra⟩ := ha
  obtain ⟨B, cb, rfl, hcb, hmb, hrb⟩ := hb
  have HRa := hide hra; have HRb := hide hrb
  clear hra hrb
  go_enter Tryz.func90, Tryz.ntmps90
  go_wp2_with fail
  go_loopw [5] (fun i wr => ∃ (k q : Nat), k ≤ l.length ∧ k ≤ r.length ∧ i = .int .i64 (k : Int) ∧ bef l r = bef (l.drop k) (r.drop k) ∧ wr = w.drewN q) (fun i _ => l.length - (intOf i).toNat)
  case atStart => exact ⟨0, 0, Nat.zero_le _, Nat.zero_le _, rfl, rfl, rfl⟩
  case round =>
    obtain ⟨k, q, hk, hk2, rfl, hbe, rfl⟩ := hrel
    have HBe := hide hbe
    clear hbe
    by_cases hlt : k < l.length
    · by_cases hlr : k < r.length
      · obtain ⟨b, off, rfl, hbt, hc⟩ := Ints.at HRa.out hlt
        obtain ⟨b', off', rfl, hbt', hc'⟩ := Ints.at HRb.out hlr
        have a0 := hc k hlt
        have b0 := hc' k hlr
        have hd := bef_drop l r k hlt hlr
        obtain ⟨x, hx⟩ : ∃ p, l.getD k 0 = p := ⟨_, rfl⟩
        obtain ⟨y, hy⟩ : ∃ p, r.getD k 0 = p := ⟨_, rfl⟩
        rw [hx] at a0 hd
        rw [hy] at b0 hd
        have i2 : (k : Int) < (r.length : Int) := by omega
        clear hx hy hc hc'
        by_cases he : x = y
        · subst he
          rw [if_pos rfl] at hd
          have HD := hide (HBe.out.trans hd)
          clear hd
          go_wp2_with fail
          go_quiet (fail)
          go_wp2_with fail
          go_roundw
          case rel => exact ⟨k + 1, _, by omega, by omega, by go_num, HD.out, by first | rfl | rw [World.drewN_drewN]⟩
          case measure => simp [intOf]; omega
        · rw [if_neg he] at hd
          have HD := hide (HBe.out.trans hd)
          have h3 : (x == y) = false := by simpa using he
          clear hd he
          go_wp2_with fail
          go_quiet (fail)
          go_wp2_with fail
          go_quiet (fail)
          go_wp2
          go_ret
          exact ⟨by rw [HD.out]; rfl, by first | exact below_drewN (below_drewN (below_drewN (Below.refl _ _) _) _) _ | exact below_drewN (below_drewN (Below.refl _ _) _) _ | exact below_drewN (Below.refl _ _) _⟩
      · have h4 : decide (k < r.length) = false := by simp; omega
        have HD := hide (HBe.out.trans (bef_end l r k (.inr (by omega)) hk hk2))
        clear hlr
        go_wp2
        go_ret
        exact ⟨by rw [HD.out]; rfl, by first | exact below_drewN (Below.refl _ _) _⟩
    · obtain rfl : k = l.length := by omega
      have HD := hide (HBe.out.trans (bef_end l r _ (.inl rfl) hk hk2))
      go_wp2
      go_ret
      exact ⟨by rw [HD.out]; rfl, by first | exact below_drewN (Below.refl _ _) _⟩

set_option maxRecDepth 100000 in
set_option maxHeartbeats 1000000 in
theorem sameI_any (va vb : Value) (l r : List Int) (w : World) (ha : Ints w va l) (hb : Ints w vb r) :
    Calls Tryz.prog 39 #[va, vb] w fun e w' => e = .returned (.bool (decide (l = r))) ∧ Ext w w' := by
  have H1 := hide (before_any va vb l r w ha hb)
  have H2 : Hid (∀ W, Ext w W → Calls Tryz.prog 90 #[vb, va] W fun e w' => e = .returned (.bool (bef r l)) ∧ Ext W w') := fun W hW => before_any vb va r l W (hb.ext hW) (ha.ext hW)
  have hbo := bef_both l r
  obtain ⟨c1, h1⟩ : ∃ c, bef l r = c := ⟨_, rfl⟩
  obtain ⟨c2, h2⟩ : ∃ c, bef r l = c := ⟨_, rfl⟩
  obtain ⟨A, ca, rfl, _, _, hra⟩ := ha
  obtain ⟨B, cb, rfl, _, _, hrb⟩ := hb
  rw [h1] at H1 hbo
  rw [h2] at H2 hbo
  rw [← hbo]
  clear hbo h1 h2 hra hrb
  go_enter Tryz.func39, Tryz.ntmps39
  go_wp2_with fail
  refine H1.out.mono ?_
  rintro e w1 ⟨rfl, E1⟩
  cases c1
  · go_wp2_with fail
    refine (H2.out w1 E1).mono ?_
    rintro e w2 ⟨rfl, E2⟩
    go_wp2
    go_ret
    exact ⟨by cases c2 <;> rfl, E1.tr E2⟩
  · go_wp2
    go_ret
    exact ⟨rfl, E1⟩

end Go.Proofs.YtncabodphjkkfaaGreat
