/- The greatest common divisor of integers. Conditions: none. -/
import Derived.Test.YtncabodphjkkfaaGreatN9
import Derived.Deep.LoopGhost
namespace Go.Proofs.YtncabodphjkkfaaGreat
open Go.RowKit Go.Limbs Go.Shelf

set_option maxRecDepth 100000 in
set_option maxHeartbeats 1000000 in
theorem gcd_any (va vb : Value) (i j : Int) (w : World) (ha : IsInt w va i) (hb : IsInt w vb j) (hsi : (limbs i.natAbs).length ≤ 17592186044416) (hsj : (limbs j.natAbs).length ≤ 17592186044416) :
    Calls Tryz.prog 64 #[va, vb] w fun e w' => ∃ v, e = .returned v ∧ IsInt w' v (Int.gcd i j : Nat) ∧ Ext w w' := by
  obtain ⟨s, rfl, hs⟩ := ha
  obtain ⟨t, rfl, ht⟩ := hb
  go_enter Tryz.func64, Tryz.ntmps64
  go_wp2_with fail
  generalize hw1 : (((w.alloc _).alloc _).alloc _) = w1
  have B0 : Blk w1 (w.heap.size) 110 #[.bool (decide (i < 0)), s] := by rw [← hw1]; exact (((Blk.new' _ _ _ _ (by simp)).alloc _).alloc _)
  have B1 : Blk w1 (w.heap.size + 1) 110 #[.bool (decide (j < 0)), t] := by rw [← hw1]; exact ((Blk.new' _ _ _ _ (by simp)).alloc _)
  have B2 : Blk w1 (w.heap.size + 2) 110 #[.bool false, .slice none 0 0] := by rw [← hw1]; exact (Blk.new' _ _ _ _ (by simp))
  have E1 : Ext w w1 := by rw [← hw1]; exact ((((Below.refl _ _).alloc (Nat.le_refl _) _).alloc (by simp <;> omega) _).alloc (by simp <;> omega) _)
  clear hw1
  have b01 := B0.cell 1
  have b11 := B1.cell 1
  simp at b01 b11
  have hs1 := hs.ext E1
  have ht1 := ht.ext E1
  go_quiet (fail)
  go_wp2_with fail
  go_loopg [5, 6] j.natAbs (fun k x y wr => ∃ m : Nat, Mag wr x m ∧ Mag wr y k ∧ Nat.gcd m k = Int.gcd i j ∧ (limbs m).length ≤ 17592186044416 ∧ (limbs k).length ≤ 17592186044416 ∧ Ext w1 wr)
  case atStart => exact ⟨i.natAbs, hs1, ht1, rfl, hsi, hsj, below_drewN (Below.refl _ _) _⟩
  case round =>
    obtain ⟨m, hx, hy, hg, hlm, hlk, hE⟩ := hrel
    have hy0 := hy
    obtain ⟨A, c, rfl, hcap, hml, hlt, hrd⟩ := hy0
    obtain ⟨L, hL⟩ : ∃ L, (limbs gk).length = L := ⟨_, rfl⟩
    have hL0 : L = 0 ↔ gk = 0 := by rw [← hL, List.length_eq_zero_iff, limbs_eq_nil]
    rw [hL] at hy ⊢
    have HG := hide hg; have HL := hide hL; have HY := hide hy; have HX := hide hx; have HL0 := hide hL0
    clear hg hL hy hx hL0 hcap hml hlt hrd
    by_cases h0 : 0 < L
    · have hne : gk ≠ 0 := fun e => by have := HL0.out.2 e; omega
      go_wp2_with fail
      refine (part_any _ _ m gk wr HX.out HY.out hne hlm).mono ?_
      rintro e w2 ⟨q, r, rfl, hq, hr, E2⟩
      go_wp2_with fail
      have hlt := Nat.mod_lt m (Nat.pos_of_ne_zero hne)
      go_roundg (m % gk)
      case measure => exact hlt
      case rel =>
        refine ⟨gk, HY.out.ext E2, hr, ?_, hlk, Nat.le_trans (limbs_length_mono (Nat.le_of_lt hlt)) hlk, hE.tr E2⟩
        rw [← HG.out, Nat.gcd_comm gk, Nat.gcd_comm m gk, Nat.gcd_rec gk m]
    · have hgk : gk = 0 := HL0.out.1 (by omega)
      have hm : m = Int.gcd i j := by have := HG.out; rwa [hgk, Nat.gcd_zero_right] at this
      have HM := hide hm
      clear hm hgk
      go_wp2_with fail
      refine (made_any false u5 m wr HX.out).mono ?_
      rintro e w2 ⟨rfl, E2⟩
      have hx2 := HX.out.ext E2
      have C := (B2.ext hE).ext E2
      have c0 := C.cell 0
      have c1 := C.cell 1
      have f0 := C.frozen 0
      have f1 := C.frozen 1
      simp at c0 c1
      have st := st_any hx2.one
      go_wp2
      refine end_int rfl rfl rfl C ((E1.tr hE).tr E2) (by omega) hx2 fun W' hm hE => ⟨_, rfl, ⟨u5, ?_, ?_⟩, hE⟩
      · rw [decide_eq_false (by omega)]
      · rw [Int.natAbs_natCast, ← HM.out]; exact hm

end Go.Proofs.YtncabodphjkkfaaGreat
