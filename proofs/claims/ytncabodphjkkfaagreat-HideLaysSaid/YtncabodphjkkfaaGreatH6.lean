/- Two lists of squares compared. Conditions: none. -/
import Derived.Test.YtncabodphjkkfaaGreatH5
namespace Go.Proofs.YtncabodphjkkfaaGreat
open Go.RowKit Go.Limbs

theorem sqCells_get (l : List Sq) (k j : Nat) (hj : j < 3) (hk : k < l.length) : (l.flatMap sqCells)[k * 3 + j]? = (sqCells (l.getD k (0, 0, 0)))[j]? := by
  induction l generalizing k with
  | nil => simp at hk
  | cons q l ih =>
    rw [List.flatMap_cons]
    rcases k with _ | k
    · rw [List.getElem?_append_left (by rw [show (sqCells q).length = 3 from rfl]; omega)]
      simp [List.getD]
    · rw [List.getElem?_append_right (by rw [show (sqCells q).length = 3 from rfl]; omega), show (sqCells q).length = 3 from rfl, show (k + 1) * 3 + j - 3 = k * 3 + j by omega, ih k (by simpa using hk)]
      simp [List.getD]
theorem sqCells_getD (l : List Sq) (k j : Nat) (hj : j < 3) (hk : k < l.length) (d : Value) : (l.flatMap sqCells).getD (k * 3 + j) d = (sqCells (l.getD k (0, 0, 0))).getD j d := by
  rw [List.getD, sqCells_get l k j hj hk]; rfl
/-- The three cells of one square. -/
theorem Sqs.at {w : World} {A : Option Addr} {l : List Sq} (h : Rd w 47 A (l.flatMap sqCells)) {k : Nat} (hk : k < l.length) :
    ∃ b off, A = some ⟨b, off, none⟩ ∧ TyBlk w b 47 ∧ ∀ j, j < l.length → w.cell? ⟨b, off + j * 3, none⟩ = some (.int .i64 (l.getD j (0, 0, 0)).1) ∧ w.cell? ⟨b, off + j * 3 + 1, none⟩ = some (.int .i64 (l.getD j (0, 0, 0)).2.1) ∧
      w.cell? ⟨b, off + j * 3 + 2, none⟩ = some (.int .i64 (l.getD j (0, 0, 0)).2.2) := by
  obtain ⟨b, off, hA, hb, hc⟩ := h (by intro e; have := sqCells_length l; rw [e] at this; simp at this; omega)
  refine ⟨b, off, hA, hb, fun j hj => ?_⟩
  have hl := sqCells_length l
  have h0 := hc (j * 3) (by omega)
  have h1 := hc (j * 3 + 1) (by omega)
  have h2 := hc (j * 3 + 2) (by omega)
  rw [show j * 3 = j * 3 + 0 from rfl, sqCells_getD l j 0 (by omega) hj] at h0
  rw [sqCells_getD l j 1 (by omega) hj] at h1
  rw [sqCells_getD l j 2 (by omega) hj] at h2
  exact ⟨h0, h1, h2⟩

set_option maxHeartbeats 1000000 in
theorem same_any (va vb : Value) (l r : List Sq) (w : World) (ha : Sqs w va l) (hb : Sqs w vb r) :
    Calls Tryz.prog 16 #[va, vb] w fun e w' => e = .returned (.bool (decide (l = r))) ∧ Ext w w' := by
  have HA := hide ha
  have HB := hide hb
  obtain ⟨A, ca, rfl, hca, hma, hra⟩ := ha
  obtain ⟨B, cb, rfl, hcb, hmb, hrb⟩ := hb
  by_cases hlen : l.length = r.length
  · have t1 : ((l.length : Int) != (r.length : Int)) = false := by simp [hlen]
    have HL := hide hlen
    go_enter Tryz.func16, Tryz.ntmps16
    clear hlen
    go_wp2_with fail
    go_loopw [5] (fun i wr => ∃ (k q : Nat), k ≤ l.length ∧ i = .int .i64 (k : Int) ∧ (∀ j, j < k → l.getD j (0, 0, 0) = r.getD j (0, 0, 0)) ∧ wr = w.drewN q) (fun i _ => l.length - (intOf i).toNat)
    case atStart => exact ⟨0, 0, Nat.zero_le _, rfl, fun j hj => by omega, rfl⟩
    case round =>
      obtain ⟨k, q, hk, rfl, hall, rfl⟩ := hrel
      have HAll := hide hall
      clear hall
      by_cases hlt : k < l.length
      · obtain ⟨b, off, rfl, hbt, hc⟩ := Sqs.at hra hlt
        have hlr : k < r.length := by have := HL.out; omega
        obtain ⟨b', off', rfl, hbt', hc'⟩ := Sqs.at hrb hlr
        obtain ⟨a0, a1, a2⟩ := hc k hlt
        obtain ⟨b0, b1, b2⟩ := hc' k hlr
        obtain ⟨⟨x, y, z⟩, hp⟩ : ∃ p, l.getD k (0, 0, 0) = p := ⟨_, rfl⟩
        obtain ⟨⟨x', y', z'⟩, hp'⟩ : ∃ p, r.getD k (0, 0, 0) = p := ⟨_, rfl⟩
        rw [hp] at a0 a1 a2
        rw [hp'] at b0 b1 b2
        have HP := hide hp; have HP' := hide hp'
        clear hp hp' hc hc'
        have i2 : (k : Int) < (r.length : Int) := by omega
        simp only [] at a0 a1 a2 b0 b1 b2
        by_cases he : x = x' ∧ y = y' ∧ z = z'
        · obtain ⟨rfl, rfl, rfl⟩ := he
          go_wp2_with fail
          go_quiet (fail)
          go_wp2_with fail
          go_roundw
          case rel =>
            refine ⟨k + 1, _, by omega, by go_num, fun j hj => ?_, by first | rfl | rw [World.drewN_drewN]⟩
            rcases Nat.lt_or_ge j k with h | h
            · exact HAll.out j h
            · obtain rfl : j = k := by omega
              rw [HP.out, HP'.out]
          case measure => simp [intOf]; omega
        · have HNe : Hid (l.getD k (0, 0, 0) ≠ r.getD k (0, 0, 0)) := by
            show _ ≠ _
            rw [HP.out, HP'.out]
            intro e; injection e with e1 e; injection e with e2 e3
            exact he ⟨e1, e2, e3⟩
          by_cases h1 : x = x'
          · by_cases h2 : y = y'
            · have h3 : (z == z') = false := by simp; exact fun h => he ⟨h1, h2, h⟩
              clear he
              subst h1 h2
              go_wp2_with fail
              go_quiet (fail)
              go_wp2
              go_ret
              exact ⟨by rw [decide_eq_false (fun h : l = r => HNe.out (by rw [h]))]; rfl, by first | exact below_drewN (below_drewN (Below.refl _ _) _) _ | exact below_drewN (Below.refl _ _) _⟩
            · have h3 : (y == y') = false := by simpa using h2
              clear he
              subst h1
              go_wp2_with fail
              go_quiet (fail)
              go_wp2
              go_ret
              exact ⟨by rw [decide_eq_false (fun h : l = r => HNe.out (by rw [h]))]; rfl, by first | exact below_drewN (below_drewN (Below.refl _ _) _) _ | exact below_drewN (Below.refl _ _) _⟩
          · have h3 : (x == x') = false := by simpa using h1
            clear he
            go_wp2_with fail
            go_quiet (fail)
            go_wp2
            go_ret
            exact ⟨by rw [decide_eq_false (fun h : l = r => HNe.out (by rw [h]))]; rfl, by first | exact below_drewN (below_drewN (Below.refl _ _) _) _ | exact below_drewN (Below.refl _ _) _⟩
      · obtain rfl : k = l.length := by omega
        go_wp2
        go_ret
        have heq : l = r := by
          refine List.ext_getElem HL.out fun j h1 h2 => ?_
          have := HAll.out j h1
          rwa [List.getD, List.getD, List.getElem?_eq_getElem h1, List.getElem?_eq_getElem h2] at this
        exact ⟨by rw [decide_eq_true heq]; rfl, below_drewN (Below.refl _ _) _⟩
  · have t1 : ((l.length : Int) != (r.length : Int)) = true := by simp; omega
    have e : decide (l = r) = false := decide_eq_false fun e => hlen (by rw [e])
    rw [e]
    clear hlen e
    go_enter Tryz.func16, Tryz.ntmps16
    go_wp2
    go_ret
    exact ⟨rfl, Ext.rfl' _⟩

end Go.Proofs.YtncabodphjkkfaaGreat
