/- The fraction of two integers. Conditions: none. -/
import Derived.Test.YtncabodphjkkfaaGreatN12
namespace Go.Proofs.YtncabodphjkkfaaGreat
open Go.RowKit Go.Limbs Go.Shelf

theorem divInt_num {i j : Int} (hj : 0 < j) : (Rat.divInt i j).num = i / (Int.gcd i j : Nat) := by
  rw [Rat.num_divInt, Int.sign_eq_one_of_pos hj, Int.one_mul, Int.gcd_comm]
theorem divInt_den {i j : Int} (hj : 0 < j) : ((Rat.divInt i j).den : Int) = j / (Int.gcd i j : Nat) := by
  rw [Rat.den_divInt, if_neg (by omega), Int.gcd_comm, Int.natCast_ediv, Int.natAbs_of_nonneg (by omega)]
theorem IsInt.unpack {W : World} {v : Value} {i : Int} (h : IsInt W v i) : ∃ b s, v = .agg #[.bool b, s] ∧ s.oneCell' = true ∧ Hid (IsInt W v i) ∧ Hid (decide (i < 0) = b) := by
  have h' := h
  obtain ⟨s, hv, hs⟩ := h
  exact ⟨_, s, hv, hs.one, hide h', hide rfl⟩

set_option maxRecDepth 100000 in
set_option maxHeartbeats 4000000 in
theorem ratio_any (va vb : Value) (i j : Int) (w : World) (ha : IsInt w va i) (hb : IsInt w vb j) (hj : j ≠ 0) (hsi : (limbs i.natAbs).length ≤ 17592186044416) (hsj : (limbs j.natAbs).length ≤ 17592186044416) :
    Calls Tryz.prog 119 #[va, vb] w fun e w' => ∃ u, e = .returned u ∧ IsRat w' u (Rat.divInt i j) ∧ Ext w w' := by
  obtain ⟨bi, s, rfl, os, hI0, Hbi⟩ := ha.unpack
  obtain ⟨bj, t, rfl, ot, hJ0, Hbj⟩ := hb.unpack
  clear ha hb
  have st1 := st_any os
  have st2 := st_any ot
  clear os ot
  cases bj
  · have hj' : 0 < j := by have := Hbj.out; simp at this; omega
    go_enter Tryz.func119, Tryz.ntmps119
    go_wp2_with fail
    generalize hW0 : (((w.alloc _).alloc _).alloc _) = W0
    have B0 : Blk W0 (w.heap.size) 110 #[.bool bi, s] := by rw [← hW0]; exact (((Blk.new' _ _ _ _ (by simp)).alloc _).alloc _)
    have B1 : Blk W0 (w.heap.size + 1) 110 #[.bool false, t] := by rw [← hW0]; exact ((Blk.new' _ _ _ _ (by simp)).alloc _)
    have B2 : Blk W0 (w.heap.size + 2) 113 #[.bool false, .slice none 0 0, .bool false, .slice none 0 0] := by rw [← hW0]; exact (Blk.new' _ _ _ _ (by simp))
    have E0 : Ext w W0 := by rw [← hW0]; exact ((((Below.refl _ _).alloc (Nat.le_refl _) _).alloc (by simp <;> omega) _).alloc (by simp <;> omega) _)
    clear hW0
    obtain ⟨i2, hi2⟩ : ∃ i2, i2 = i := ⟨_, rfl⟩
    obtain ⟨j2, hj2⟩ : ∃ j2, j2 = j := ⟨_, rfl⟩
    obtain ⟨b0, hb0⟩ : ∃ b0, b0 = bi := ⟨_, rfl⟩
    obtain ⟨s0, hs0⟩ : ∃ s0, s0 = s := ⟨_, rfl⟩
    obtain ⟨t0, ht0⟩ : ∃ t0, t0 = t := ⟨_, rfl⟩
    have HI := hide (hI0.out.ext E0)
    have HJ := hide (hJ0.out.ext E0)
    have HP := hide hj'
    have HL1 := hide hsi
    have HL2 := hide hsj
    subst hi2 hj2 hb0 hs0 ht0
    clear hI0 hJ0 Hbi Hbj hj' hsi hsj hj
    refine (gcd_any _ _ i2 j2 W0 HI.out HJ.out HL1.out HL2.out).mono ?_
    rintro e W1 ⟨v, rfl, ⟨sg, rfl, hsg⟩, E1⟩
    rw [decide_eq_false (show ¬ ((Int.gcd i2 j2 : Nat) : Int) < 0 by omega)]
    obtain ⟨G, hG⟩ : ∃ G, Int.gcd i2 j2 = G := ⟨_, rfl⟩
    rw [hG] at hsg
    have HG := hide hG
    have HG0 := hide (show 0 < (G : Int) by have := Int.gcd_pos_of_ne_zero_right i2 (show j2 ≠ 0 by have := HP.out; omega); rw [hG] at this; omega)
    have HLG := hide (show (limbs (G : Int).natAbs).length ≤ 17592186044416 by
      refine Nat.le_trans (limbs_length_mono ?_) HL2.out
      rw [← hG, Int.natAbs_natCast]
      exact Nat.le_of_dvd (by have := HP.out; omega) (Int.natAbs_dvd_natAbs.2 (Int.gcd_dvd_right i2 j2) |> fun h => by rwa [Int.natAbs_natCast] at h))
    clear hG
    have HSG : Hid (IsInt W1 (.agg #[.bool false, sg]) (G : Int)) := hide ⟨sg, by rw [decide_eq_false (show ¬ (G : Int) < 0 by omega)], hsg⟩
    have st3 := st_any hsg.one
    clear hsg
    have D0 := B0.ext E1
    have D1 := B1.ext E1
    have D2 := B2.ext E1
    go_wp2_with fail
    generalize hW2 : (W1.alloc _) = W2
    have BG : Blk W2 (W1.heap.size) 110 #[.bool false, sg] := by rw [← hW2]; exact (Blk.new' _ _ _ _ (by simp))
    have E2 : Ext W1 W2 := by rw [← hW2]; exact ((Below.refl _ _).alloc (Nat.le_refl _) _)
    clear hW2
    have D0 := D0.ext E2
    have D1 := D1.ext E2
    have D2 := D2.ext E2
    replace HI := hide ((HI.out.ext E1).ext E2)
    replace HJ := hide ((HJ.out.ext E1).ext E2)
    replace HSG := hide (HSG.out.ext E2)
    have EE := (E0.tr E1).tr E2
    obtain ⟨Gs, hGs⟩ : ∃ Gs : List (Value → World → Prop), Gs = [(fun v _ => v = .agg #[.bool false, sg]), (fun v W => IsInt W v (1)), (fun v _ => v = .int .i64 ((G : Int) - 1).sign), (fun v _ => v = .bool (((G : Int) - 1).sign == 0))] := ⟨_, rfl⟩
    have hst : Flow.Stay Ext Gs := by rw [hGs]; exact (Flow.Stay.cons (fun _ _ _ _ h => h) (Flow.Stay.cons (fun _ _ E _ h => IsInt.ext h E) (Flow.Stay.cons (fun _ _ _ _ h => h) (Flow.Stay.cons (fun _ _ _ _ h => h) Flow.Stay.nil))))
    refine Flow.wp_region_flow 4 (by kernel_rfl) (fun W => Ext W2 W) Gs (by kernel_rfl) (Ext.rfl' W2).drew ?flowsteps ?flowend
    case flowsteps =>
      refine ⟨?_, ?_, ?_, ?_, trivial⟩
      · refine Flow.step_val rfl fun a W hb hI hd => ?_
        have h5 : a.eval (.tmp 5) = .pointer (some ⟨W1.heap.size, 0, none⟩) := hb.pre' 5 (by kernel_rfl)
        exact ⟨_, run_load2 h5 (by have h := (BG.ext hI).cell 0; exact h) (by have h := (BG.ext hI).cell 1; exact h), by rw [hGs]; rfl⟩
      · refine Flow.step_call rfl fun a W hb hI hd => ?_
        refine ⟨60, #[a.eval (.const (Go.Value.int Go.IntKind.i64 1))], Flow.run_enter (enters_of Tryz.func60 (by kernel_rfl) rfl) (by simp), ?_⟩
        rw [BigFrame.eval_const]
        refine (of_any 1 W (by decide) (by decide)).mono ?_
        rintro e w' ⟨v, rfl, hm, hE⟩
        exact ⟨v, rfl, by rw [hGs]; exact hm, hI.tr hE, hst.at hE⟩
      · refine Flow.step_call rfl fun a W hb hI hd => ?_
        have h19 : a.eval (.tmp 19) = .agg #[.bool false, sg] := by have h := hd _ (Array.mem_of_getElem? (i := 0) rfl) rfl; rw [hGs] at h; exact h
        have h20 : (fun v W => IsInt W v (1)) (a.eval (.tmp 20)) W := by have h := hd _ (Array.mem_of_getElem? (i := 1) rfl) rfl; rw [hGs] at h; exact h
        refine ⟨144, #[a.eval (.tmp 19), a.eval (.tmp 20)], Flow.run_enter (enters_of Tryz.func144 (by kernel_rfl) rfl) (by simp), ?_⟩
        rw [h19]
        refine (cmp_any _ _ _ _ W (HSG.out.ext hI) h20 (Nat.le_trans HLG.out (by decide)) one_len).mono ?_
        rintro e w' ⟨rfl, hE⟩
        exact ⟨_, rfl, by rw [hGs]; rfl, hI.tr hE, hst.at hE⟩
      · refine Flow.step_val rfl fun a W hb hI hd => ?_
        have h21 : a.eval (.tmp 21) = .int .i64 ((G : Int) - 1).sign := by have h := hd _ (Array.mem_of_getElem? (i := 0) rfl) rfl; rw [hGs] at h; exact h
        have g21 : a.tmps[21]?.getD undef = .int .i64 ((G : Int) - 1).sign := by have h := h21; simp only [Act.eval, Array.getD_eq_getD_getElem?] at h; exact h
        exact ⟨.bool (((G : Int) - 1).sign == 0), by simp [go_sem, g21], by rw [hGs]; rfl⟩
    case flowend =>
      rw [hGs]
      refine fun W hI v0 h0 v1 h1 v2 h2 v3 h3 => ?_
      obtain rfl : .agg #[.bool false, sg] = v0 := Eq.symm h0; clear h0
      replace h1 : (fun v W => IsInt W v (1)) v1 W := h1
      obtain rfl : .int .i64 ((G : Int) - 1).sign = v2 := Eq.symm h2; clear h2
      obtain rfl : .bool (((G : Int) - 1).sign == 0) = v3 := Eq.symm h3; clear h3
      clear hst hGs
      show wpList _ _ _ _ _ _
      simp only [List.drop_succ_cons, List.drop_zero, Act.put, List.setIfInBounds_toArray, List.set_cons_zero, List.set_cons_succ]
      have D0 := D0.ext hI
      have D1 := D1.ext hI
      have D2 := D2.ext hI
      have BG := BG.ext hI
      replace HI := hide (HI.out.ext hI)
      replace HJ := hide (HJ.out.ext hI)
      replace HSG := hide (HSG.out.ext hI)
      replace EE := EE.tr hI
      obtain ⟨cg, hcg⟩ : ∃ b : Bool, (((G : Int) - 1).sign == 0) = b := ⟨_, rfl⟩
      rw [hcg]
      have HCG := hide hcg
      clear hcg
      have lW := BG.lt
      have l2 := D2.lt
      have a0 := D0.cell 0
      have a1 := D0.cell 1
      have b0' := D1.cell 0
      have b1' := D1.cell 1
      have g0 := BG.cell 0
      have g1 := BG.cell 1
      have c0 := D2.cell 0
      have c1 := D2.cell 1
      have c2 := D2.cell 2
      have c3 := D2.cell 3
      have f0 := D2.frozen 0
      have f1 := D2.frozen 1
      have f2 := D2.frozen 2
      have f3 := D2.frozen 3
      simp at a0 a1 b0' b1' g0 g1 c0 c1 c2 c3
      cases cg
      · go_wp2_with fail
        refine (quo_any _ _ i2 (G : Int) W HI.out HSG.out HG0.out HL1.out HLG.out).mono ?_
        rintro e W3 ⟨u, v, rfl, hu, hv, E3⟩
        obtain ⟨bu, su, rfl, ou, HU, Hbu⟩ := hu.unpack
        obtain ⟨bv, sv, rfl, ov, HV, Hbv⟩ := hv.unpack
        have st4 := st_any ou
        have st5 := st_any ov
        clear hu hv ou ov a0 a1 b0' b1' g0 g1 c0 c1 c2 c3 f0 f1 f2 f3
        have D0 := D0.ext E3
        have D1 := D1.ext E3
        have D2 := D2.ext E3
        have BG := BG.ext E3
        obtain ⟨W4, hW4⟩ : ∃ W4, (W3.alloc (.cells #[.bool bu, su] 110)).alloc (.cells #[.bool bv, sv] 110) = W4 := ⟨_, rfl⟩
        have E4 : Ext W3 W4 := by rw [← hW4]; exact ((Below.refl _ _).alloc (Nat.le_refl _) _).alloc (by simp) _
        have BU : Blk W4 W3.heap.size 110 #[.bool bu, su] := by rw [← hW4]; exact (Blk.new _ _ _).alloc _
        have D0 := D0.ext E4
        have D1 := D1.ext E4
        have D2 := D2.ext E4
        have BG := BG.ext E4
        have lW := BG.lt
        have l2 := D2.lt
        have a0 := D0.cell 0
        have a1 := D0.cell 1
        have b0' := D1.cell 0
        have b1' := D1.cell 1
        have g0 := BG.cell 0
        have g1 := BG.cell 1
        simp at a0 a1 b0' b1' g0 g1
        go_wp2_with fail
        clear hW4 a0 a1 b0' b1' g0 g1
        replace HI := hide ((HI.out.ext E3).ext E4)
        replace HJ := hide ((HJ.out.ext E3).ext E4)
        replace HSG := hide ((HSG.out.ext E3).ext E4)
        replace HU := hide (HU.out.ext E4)
        refine (quo_any _ _ j2 (G : Int) W4 HJ.out HSG.out HG0.out HL2.out HLG.out).mono ?_
        rintro e W5 ⟨u, v, rfl, hu, hv, E5⟩
        obtain ⟨bx, sx, rfl, ox, HX, Hbx⟩ := hu.unpack
        obtain ⟨by', sy, rfl, oy, HY, Hby⟩ := hv.unpack
        have st6 := st_any ox
        have st7 := st_any oy
        clear hu hv ox oy
        have D2 := D2.ext E5
        have BU := BU.ext E5
        replace HU := hide (HU.out.ext E5)
        obtain ⟨W6, hW6⟩ : ∃ W6, (W5.alloc (.cells #[.bool bx, sx] 110)).alloc (.cells #[.bool by', sy] 110) = W6 := ⟨_, rfl⟩
        have E6 : Ext W5 W6 := by rw [← hW6]; exact ((Below.refl _ _).alloc (Nat.le_refl _) _).alloc (by simp) _
        have BX : Blk W6 W5.heap.size 110 #[.bool bx, sx] := by rw [← hW6]; exact (Blk.new _ _ _).alloc _
        have D2 := D2.ext E6
        have BU := BU.ext E6
        replace HU := hide (HU.out.ext E6)
        replace HX := hide (HX.out.ext E6)
        have l2 := D2.lt
        have g0 := BU.cell 0
        have g1 := BU.cell 1
        have a0 := BX.cell 0
        have a1 := BX.cell 1
        have c0 := D2.cell 0
        have c1 := D2.cell 1
        have c2 := D2.cell 2
        have c3 := D2.cell 3
        have f0 := D2.frozen 0
        have f1 := D2.frozen 1
        have f2 := D2.frozen 2
        have f3 := D2.frozen 3
        simp at a0 a1 g0 g1 c0 c1 c2 c3
        have EF := (((EE.tr E3).tr E4).tr E5).tr E6
        have HQ : Hid (IsRat W6 (.agg #[.bool bu, su, .bool bx, sx]) (Rat.divInt i2 j2)) := by
          show IsRat _ _ _
          obtain ⟨s', t', e1, e2, h⟩ := IsRat.of_ints (q := Rat.divInt i2 j2) (by rw [divInt_num HP.out, HG.out]; exact HU.out) (by rw [divInt_den HP.out, HG.out]; exact HX.out)
          injection e1 with e1; injection e1 with e1; injection e1 with e11 e12; injection e12 with e12
          injection e2 with e2; injection e2 with e2; injection e2 with e21 e22; injection e22 with e22
          rw [e11, e12, e21, e22]
          exact h
        go_wp2
        exact end_rat rfl rfl rfl D2 EF (by omega) HQ.out fun v W' h hE => ⟨_, rfl, h, hE⟩
      · have H1 : G = 1 := by
          have h := HCG.out
          have h0 := HG0.out
          rw [beq_iff_eq, Int.sign_eq_zero_iff_zero] at h
          omega
        subst H1
        have HQ : Hid (IsRat W (.agg #[.bool b0, s0, .bool false, t0]) (Rat.divInt i2 j2)) := by
          show IsRat _ _ _
          obtain ⟨s', t', e1, e2, h⟩ := IsRat.of_ints (q := Rat.divInt i2 j2) (by rw [divInt_num HP.out, HG.out]; simpa using HI.out) (by rw [divInt_den HP.out, HG.out]; simpa using HJ.out)
          injection e1 with e1; injection e1 with e1; injection e1 with e11 e12; injection e12 with e12
          injection e2 with e2; injection e2 with e2; injection e2 with e21 e22; injection e22 with e22
          rw [e11, e12, e21, e22]
          exact h
        go_wp2
        exact end_rat rfl rfl rfl D2 EE (by omega) HQ.out fun v W' h hE => ⟨_, rfl, h, hE⟩
    
  · rw [← Rat.neg_divInt_neg i j]
    obtain ⟨i2, hi2⟩ : ∃ i2, i2 = -i := ⟨_, rfl⟩
    obtain ⟨j2, hj2⟩ : ∃ j2, j2 = -j := ⟨_, rfl⟩
    rw [← hi2, ← hj2]
    have HI2 := hide hi2
    have HJ2 := hide hj2
    clear hi2 hj2
    go_enter Tryz.func119, Tryz.ntmps119
    go_wp2_with fail
    generalize hWa : (((w.alloc _).alloc _).alloc _) = Wa
    have B0 : Blk Wa (w.heap.size) 110 #[.bool bi, s] := by rw [← hWa]; exact (((Blk.new' _ _ _ _ (by simp)).alloc _).alloc _)
    have B1 : Blk Wa (w.heap.size + 1) 110 #[.bool true, t] := by rw [← hWa]; exact ((Blk.new' _ _ _ _ (by simp)).alloc _)
    have B2 : Blk Wa (w.heap.size + 2) 113 #[.bool false, .slice none 0 0, .bool false, .slice none 0 0] := by rw [← hWa]; exact (Blk.new' _ _ _ _ (by simp))
    have E0 : Ext w Wa := by rw [← hWa]; exact ((((Below.refl _ _).alloc (Nat.le_refl _) _).alloc (by simp <;> omega) _).alloc (by simp <;> omega) _)
    clear hWa
    have HIa := hide (hI0.out.ext E0)
    have HJa := hide (hJ0.out.ext E0)
    obtain ⟨Gs, hGs⟩ : ∃ Gs : List (Value → World → Prop), Gs = [(fun v _ => v = .agg #[.bool bi, s]), (fun v W => IsInt W v (-i)), (fun v _ => v = .agg #[.bool true, t]), (fun v W => IsInt W v (-j))] := ⟨_, rfl⟩
    have hst : Flow.Stay Ext Gs := by rw [hGs]; exact (Flow.Stay.cons (fun _ _ _ _ h => h) (Flow.Stay.cons (fun _ _ E _ h => IsInt.ext h E) (Flow.Stay.cons (fun _ _ _ _ h => h) (Flow.Stay.cons (fun _ _ E _ h => IsInt.ext h E) Flow.Stay.nil))))
    refine Flow.wp_region_flow 4 (by kernel_rfl) (fun W => Ext Wa W) Gs (by kernel_rfl) (Ext.rfl' Wa).drew ?flowsteps ?flowend
    case flowsteps =>
      refine ⟨?_, ?_, ?_, ?_, trivial⟩
      · refine Flow.step_val rfl fun a W hb hI hd => ?_
        have h2 : a.eval (.tmp 2) = .pointer (some ⟨w.heap.size, 0, none⟩) := hb.pre' 2 (by kernel_rfl)
        exact ⟨_, run_load2 h2 (by have h := (B0.ext hI).cell 0; exact h) (by have h := (B0.ext hI).cell 1; exact h), by rw [hGs]; rfl⟩
      · refine Flow.step_call rfl fun a W hb hI hd => ?_
        have h12 : a.eval (.tmp 12) = .agg #[.bool bi, s] := by have h := hd _ (Array.mem_of_getElem? (i := 0) rfl) rfl; rw [hGs] at h; exact h
        refine ⟨135, #[a.eval (.tmp 12)], Flow.run_enter (enters_of Tryz.func135 (by kernel_rfl) rfl) (by simp), ?_⟩
        rw [h12]
        refine (neg_any _ _ W (HIa.out.ext hI)).mono ?_
        rintro e w' ⟨v, rfl, hm, hE⟩
        exact ⟨v, rfl, by rw [hGs]; exact hm, hI.tr hE, hst.at hE⟩
      · refine Flow.step_val rfl fun a W hb hI hd => ?_
        have h3 : a.eval (.tmp 3) = .pointer (some ⟨(w.heap.size + 1), 0, none⟩) := hb.pre' 3 (by kernel_rfl)
        exact ⟨_, run_load2 h3 (by have h := (B1.ext hI).cell 0; exact h) (by have h := (B1.ext hI).cell 1; exact h), by rw [hGs]; rfl⟩
      · refine Flow.step_call rfl fun a W hb hI hd => ?_
        have h14 : a.eval (.tmp 14) = .agg #[.bool true, t] := by have h := hd _ (Array.mem_of_getElem? (i := 0) rfl) rfl; rw [hGs] at h; exact h
        refine ⟨135, #[a.eval (.tmp 14)], Flow.run_enter (enters_of Tryz.func135 (by kernel_rfl) rfl) (by simp), ?_⟩
        rw [h14]
        refine (neg_any _ _ W (HJa.out.ext hI)).mono ?_
        rintro e w' ⟨v, rfl, hm, hE⟩
        exact ⟨v, rfl, by rw [hGs]; exact hm, hI.tr hE, hst.at hE⟩
    case flowend =>
      rw [hGs]
      refine fun W hI v0 h0 v1 h1 v2 h2 v3 h3 => ?_
      obtain rfl : .agg #[.bool bi, s] = v0 := Eq.symm h0; clear h0
      replace h1 : (fun v W => IsInt W v (-i)) v1 W := h1
      obtain rfl : .agg #[.bool true, t] = v2 := Eq.symm h2; clear h2
      replace h3 : (fun v W => IsInt W v (-j)) v3 W := h3
      clear hst hGs
      show wpList _ _ _ _ _ _
      simp only [List.drop_succ_cons, List.drop_zero, Act.put, List.setIfInBounds_toArray, List.set_cons_zero, List.set_cons_succ]
      obtain ⟨b0, s0, rfl, o0, HI, Hb0⟩ := h1.unpack
      obtain ⟨b1, t0, rfl, o1, HJ, Hb1⟩ := h3.unpack
      have st3 := st_any o0
      have st4 := st_any o1
      clear h1 h3 o0 o1 st1 st2
      have B0 := B0.ext hI
      have B1 := B1.ext hI
      have B2 := B2.ext hI
      obtain ⟨W0, hW0, C0, C1, E0', K0, M0, Bk, S0⟩ := put4 B0 B1 (by omega) (by omega) (by omega) (.bool b0) s0 (.bool b1) t0 (E := E0.tr hI)
      have C2 := Bk _ _ _ (by omega) (by omega) B2
      have a0 := B0.cell 0
      have a1 := B0.cell 1
      have b0' := B1.cell 0
      have b1' := B1.cell 1
      have f0 := B0.frozen 0
      have f1 := B0.frozen 1
      have e0 := B1.frozen 0
      have e1 := B1.frozen 1
      have c0 := C0.cell 0
      have c1 := C0.cell 1
      have d0 := C1.cell 0
      have d1 := C1.cell 1
      simp at a0 a1 b0' b1' c0 c1 d0 d1
      have hj' : 0 < -j := by have := Hbj.out; simp at this; omega
      go_wp2_with fail
      try rw [hW0]
      clear hW0 a0 a1 b0' b1' f0 f1 e0 e1 c0 c1 d0 d1
      replace HI := hide (K0 _ _ HI.out)
      replace HJ := hide (K0 _ _ HJ.out)
      clear K0 M0 Bk S0
      rw [← Int.natAbs_neg i] at hsi
      rw [← Int.natAbs_neg j] at hsj
      have hi2 := HI2.out
      have hj2 := HJ2.out
      rw [← hi2] at HI hsi
      rw [← hj2] at HJ hj' hsj
      have HP := hide hj'
      have HL1 := hide hsi
      have HL2 := hide hsj
      have B0 := C0
      have B1 := C1
      have B2 := C2
      have E0 := E0'
      clear hi2 hj2 HI2 HJ2 hsi hsj hj' Hbi Hbj HIa HJa hI0 hJ0
      refine (gcd_any _ _ i2 j2 W0 HI.out HJ.out HL1.out HL2.out).mono ?_
      rintro e W1 ⟨v, rfl, ⟨sg, rfl, hsg⟩, E1⟩
      rw [decide_eq_false (show ¬ ((Int.gcd i2 j2 : Nat) : Int) < 0 by omega)]
      obtain ⟨G, hG⟩ : ∃ G, Int.gcd i2 j2 = G := ⟨_, rfl⟩
      rw [hG] at hsg
      have HG := hide hG
      have HG0 := hide (show 0 < (G : Int) by have := Int.gcd_pos_of_ne_zero_right i2 (show j2 ≠ 0 by have := HP.out; omega); rw [hG] at this; omega)
      have HLG := hide (show (limbs (G : Int).natAbs).length ≤ 17592186044416 by
        refine Nat.le_trans (limbs_length_mono ?_) HL2.out
        rw [← hG, Int.natAbs_natCast]
        exact Nat.le_of_dvd (by have := HP.out; omega) (Int.natAbs_dvd_natAbs.2 (Int.gcd_dvd_right i2 j2) |> fun h => by rwa [Int.natAbs_natCast] at h))
      clear hG
      have HSG : Hid (IsInt W1 (.agg #[.bool false, sg]) (G : Int)) := hide ⟨sg, by rw [decide_eq_false (show ¬ (G : Int) < 0 by omega)], hsg⟩
      have st3 := st_any hsg.one
      clear hsg
      have D0 := B0.ext E1
      have D1 := B1.ext E1
      have D2 := B2.ext E1
      go_wp2_with fail
      generalize hW2 : (W1.alloc _) = W2
      have BG : Blk W2 (W1.heap.size) 110 #[.bool false, sg] := by rw [← hW2]; exact (Blk.new' _ _ _ _ (by simp))
      have E2 : Ext W1 W2 := by rw [← hW2]; exact ((Below.refl _ _).alloc (Nat.le_refl _) _)
      clear hW2
      have D0 := D0.ext E2
      have D1 := D1.ext E2
      have D2 := D2.ext E2
      replace HI := hide ((HI.out.ext E1).ext E2)
      replace HJ := hide ((HJ.out.ext E1).ext E2)
      replace HSG := hide (HSG.out.ext E2)
      have EE := (E0.tr E1).tr E2
      obtain ⟨Gs, hGs⟩ : ∃ Gs : List (Value → World → Prop), Gs = [(fun v _ => v = .agg #[.bool false, sg]), (fun v W => IsInt W v (1)), (fun v _ => v = .int .i64 ((G : Int) - 1).sign), (fun v _ => v = .bool (((G : Int) - 1).sign == 0))] := ⟨_, rfl⟩
      have hst : Flow.Stay Ext Gs := by rw [hGs]; exact (Flow.Stay.cons (fun _ _ _ _ h => h) (Flow.Stay.cons (fun _ _ E _ h => IsInt.ext h E) (Flow.Stay.cons (fun _ _ _ _ h => h) (Flow.Stay.cons (fun _ _ _ _ h => h) Flow.Stay.nil))))
      refine Flow.wp_region_flow 4 (by kernel_rfl) (fun W => Ext W2 W) Gs (by kernel_rfl) (Ext.rfl' W2).drew ?flowsteps ?flowend
      case flowsteps =>
        refine ⟨?_, ?_, ?_, ?_, trivial⟩
        · refine Flow.step_val rfl fun a W hb hI hd => ?_
          have h5 : a.eval (.tmp 5) = .pointer (some ⟨W1.heap.size, 0, none⟩) := hb.pre' 5 (by kernel_rfl)
          exact ⟨_, run_load2 h5 (by have h := (BG.ext hI).cell 0; exact h) (by have h := (BG.ext hI).cell 1; exact h), by rw [hGs]; rfl⟩
        · refine Flow.step_call rfl fun a W hb hI hd => ?_
          refine ⟨60, #[a.eval (.const (Go.Value.int Go.IntKind.i64 1))], Flow.run_enter (enters_of Tryz.func60 (by kernel_rfl) rfl) (by simp), ?_⟩
          rw [BigFrame.eval_const]
          refine (of_any 1 W (by decide) (by decide)).mono ?_
          rintro e w' ⟨v, rfl, hm, hE⟩
          exact ⟨v, rfl, by rw [hGs]; exact hm, hI.tr hE, hst.at hE⟩
        · refine Flow.step_call rfl fun a W hb hI hd => ?_
          have h19 : a.eval (.tmp 19) = .agg #[.bool false, sg] := by have h := hd _ (Array.mem_of_getElem? (i := 0) rfl) rfl; rw [hGs] at h; exact h
          have h20 : (fun v W => IsInt W v (1)) (a.eval (.tmp 20)) W := by have h := hd _ (Array.mem_of_getElem? (i := 1) rfl) rfl; rw [hGs] at h; exact h
          refine ⟨144, #[a.eval (.tmp 19), a.eval (.tmp 20)], Flow.run_enter (enters_of Tryz.func144 (by kernel_rfl) rfl) (by simp), ?_⟩
          rw [h19]
          refine (cmp_any _ _ _ _ W (HSG.out.ext hI) h20 (Nat.le_trans HLG.out (by decide)) one_len).mono ?_
          rintro e w' ⟨rfl, hE⟩
          exact ⟨_, rfl, by rw [hGs]; rfl, hI.tr hE, hst.at hE⟩
        · refine Flow.step_val rfl fun a W hb hI hd => ?_
          have h21 : a.eval (.tmp 21) = .int .i64 ((G : Int) - 1).sign := by have h := hd _ (Array.mem_of_getElem? (i := 0) rfl) rfl; rw [hGs] at h; exact h
          have g21 : a.tmps[21]?.getD undef = .int .i64 ((G : Int) - 1).sign := by have h := h21; simp only [Act.eval, Array.getD_eq_getD_getElem?] at h; exact h
          exact ⟨.bool (((G : Int) - 1).sign == 0), by simp [go_sem, g21], by rw [hGs]; rfl⟩
      case flowend =>
        rw [hGs]
        refine fun W hI v0 h0 v1 h1 v2 h2 v3 h3 => ?_
        obtain rfl : .agg #[.bool false, sg] = v0 := Eq.symm h0; clear h0
        replace h1 : (fun v W => IsInt W v (1)) v1 W := h1
        obtain rfl : .int .i64 ((G : Int) - 1).sign = v2 := Eq.symm h2; clear h2
        obtain rfl : .bool (((G : Int) - 1).sign == 0) = v3 := Eq.symm h3; clear h3
        clear hst hGs
        show wpList _ _ _ _ _ _
        simp only [List.drop_succ_cons, List.drop_zero, Act.put, List.setIfInBounds_toArray, List.set_cons_zero, List.set_cons_succ]
        have D0 := D0.ext hI
        have D1 := D1.ext hI
        have D2 := D2.ext hI
        have BG := BG.ext hI
        replace HI := hide (HI.out.ext hI)
        replace HJ := hide (HJ.out.ext hI)
        replace HSG := hide (HSG.out.ext hI)
        replace EE := EE.tr hI
        obtain ⟨cg, hcg⟩ : ∃ b : Bool, (((G : Int) - 1).sign == 0) = b := ⟨_, rfl⟩
        rw [hcg]
        have HCG := hide hcg
        clear hcg
        have lW := BG.lt
        have l2 := D2.lt
        have a0 := D0.cell 0
        have a1 := D0.cell 1
        have b0' := D1.cell 0
        have b1' := D1.cell 1
        have g0 := BG.cell 0
        have g1 := BG.cell 1
        have c0 := D2.cell 0
        have c1 := D2.cell 1
        have c2 := D2.cell 2
        have c3 := D2.cell 3
        have f0 := D2.frozen 0
        have f1 := D2.frozen 1
        have f2 := D2.frozen 2
        have f3 := D2.frozen 3
        simp at a0 a1 b0' b1' g0 g1 c0 c1 c2 c3
        cases cg
        · go_wp2_with fail
          refine (quo_any _ _ i2 (G : Int) W HI.out HSG.out HG0.out HL1.out HLG.out).mono ?_
          rintro e W3 ⟨u, v, rfl, hu, hv, E3⟩
          obtain ⟨bu, su, rfl, ou, HU, Hbu⟩ := hu.unpack
          obtain ⟨bv, sv, rfl, ov, HV, Hbv⟩ := hv.unpack
          have st4 := st_any ou
          have st5 := st_any ov
          clear hu hv ou ov a0 a1 b0' b1' g0 g1 c0 c1 c2 c3 f0 f1 f2 f3
          have D0 := D0.ext E3
          have D1 := D1.ext E3
          have D2 := D2.ext E3
          have BG := BG.ext E3
          obtain ⟨W4, hW4⟩ : ∃ W4, (W3.alloc (.cells #[.bool bu, su] 110)).alloc (.cells #[.bool bv, sv] 110) = W4 := ⟨_, rfl⟩
          have E4 : Ext W3 W4 := by rw [← hW4]; exact ((Below.refl _ _).alloc (Nat.le_refl _) _).alloc (by simp) _
          have BU : Blk W4 W3.heap.size 110 #[.bool bu, su] := by rw [← hW4]; exact (Blk.new _ _ _).alloc _
          have D0 := D0.ext E4
          have D1 := D1.ext E4
          have D2 := D2.ext E4
          have BG := BG.ext E4
          have lW := BG.lt
          have l2 := D2.lt
          have a0 := D0.cell 0
          have a1 := D0.cell 1
          have b0' := D1.cell 0
          have b1' := D1.cell 1
          have g0 := BG.cell 0
          have g1 := BG.cell 1
          simp at a0 a1 b0' b1' g0 g1
          go_wp2_with fail
          clear hW4 a0 a1 b0' b1' g0 g1
          replace HI := hide ((HI.out.ext E3).ext E4)
          replace HJ := hide ((HJ.out.ext E3).ext E4)
          replace HSG := hide ((HSG.out.ext E3).ext E4)
          replace HU := hide (HU.out.ext E4)
          refine (quo_any _ _ j2 (G : Int) W4 HJ.out HSG.out HG0.out HL2.out HLG.out).mono ?_
          rintro e W5 ⟨u, v, rfl, hu, hv, E5⟩
          obtain ⟨bx, sx, rfl, ox, HX, Hbx⟩ := hu.unpack
          obtain ⟨by', sy, rfl, oy, HY, Hby⟩ := hv.unpack
          have st6 := st_any ox
          have st7 := st_any oy
          clear hu hv ox oy
          have D2 := D2.ext E5
          have BU := BU.ext E5
          replace HU := hide (HU.out.ext E5)
          obtain ⟨W6, hW6⟩ : ∃ W6, (W5.alloc (.cells #[.bool bx, sx] 110)).alloc (.cells #[.bool by', sy] 110) = W6 := ⟨_, rfl⟩
          have E6 : Ext W5 W6 := by rw [← hW6]; exact ((Below.refl _ _).alloc (Nat.le_refl _) _).alloc (by simp) _
          have BX : Blk W6 W5.heap.size 110 #[.bool bx, sx] := by rw [← hW6]; exact (Blk.new _ _ _).alloc _
          have D2 := D2.ext E6
          have BU := BU.ext E6
          replace HU := hide (HU.out.ext E6)
          replace HX := hide (HX.out.ext E6)
          have l2 := D2.lt
          have g0 := BU.cell 0
          have g1 := BU.cell 1
          have a0 := BX.cell 0
          have a1 := BX.cell 1
          have c0 := D2.cell 0
          have c1 := D2.cell 1
          have c2 := D2.cell 2
          have c3 := D2.cell 3
          have f0 := D2.frozen 0
          have f1 := D2.frozen 1
          have f2 := D2.frozen 2
          have f3 := D2.frozen 3
          simp at a0 a1 g0 g1 c0 c1 c2 c3
          have EF := (((EE.tr E3).tr E4).tr E5).tr E6
          have HQ : Hid (IsRat W6 (.agg #[.bool bu, su, .bool bx, sx]) (Rat.divInt i2 j2)) := by
            show IsRat _ _ _
            obtain ⟨s', t', e1, e2, h⟩ := IsRat.of_ints (q := Rat.divInt i2 j2) (by rw [divInt_num HP.out, HG.out]; exact HU.out) (by rw [divInt_den HP.out, HG.out]; exact HX.out)
            injection e1 with e1; injection e1 with e1; injection e1 with e11 e12; injection e12 with e12
            injection e2 with e2; injection e2 with e2; injection e2 with e21 e22; injection e22 with e22
            rw [e11, e12, e21, e22]
            exact h
          go_wp2
          exact end_rat rfl rfl rfl D2 EF (by omega) HQ.out fun v W' h hE => ⟨_, rfl, h, hE⟩
        · have H1 : G = 1 := by
            have h := HCG.out
            have h0 := HG0.out
            rw [beq_iff_eq, Int.sign_eq_zero_iff_zero] at h
            omega
          subst H1
          have HQ : Hid (IsRat W (.agg #[.bool b0, s0, .bool b1, t0]) (Rat.divInt i2 j2)) := by
            show IsRat _ _ _
            obtain ⟨s', t', e1, e2, h⟩ := IsRat.of_ints (q := Rat.divInt i2 j2) (by rw [divInt_num HP.out, HG.out]; simpa using HI.out) (by rw [divInt_den HP.out, HG.out]; simpa using HJ.out)
            injection e1 with e1; injection e1 with e1; injection e1 with e11 e12; injection e12 with e12
            injection e2 with e2; injection e2 with e2; injection e2 with e21 e22; injection e22 with e22
            rw [e11, e12, e21, e22]
            exact h
          go_wp2
          exact end_rat rfl rfl rfl D2 EE (by omega) HQ.out fun v W' h hE => ⟨_, rfl, h, hE⟩
      

end Go.Proofs.YtncabodphjkkfaaGreat
