/- Sum, difference, product and quotient of fractions. Conditions: none. -/
import Derived.Test.YtncabodphjkkfaaGreatN13
namespace Go.Proofs.YtncabodphjkkfaaGreat
open Go.RowKit Go.Limbs Go.Shelf

/-- Both parts of a fraction have at most n digits of 32 bits. -/
def RatLen (q : Rat) (n : Nat) : Prop := (limbs q.num.natAbs).length ≤ n ∧ (limbs q.den).length ≤ n

theorem rat_den_pos (q : Rat) : 0 < (q.den : Int) := by have := q.den_pos; omega
theorem add_divInt (a b : Rat) : Rat.divInt (a.num * b.den + b.num * a.den) (a.den * b.den) = a + b := by
  rw [Rat.add_def', ← Int.natCast_mul, Rat.divInt_ofNat]
theorem mul_divInt (a b : Rat) : Rat.divInt (a.num * b.num) (a.den * b.den) = a * b := by
  rw [Rat.mul_def', ← Int.natCast_mul, Rat.divInt_ofNat]
theorem div_divInt (a b : Rat) : Rat.divInt (a.num * b.den) (a.den * b.num) = a / b := by
  rw [Rat.div_def, Rat.inv_def, ← Rat.divInt_mul_divInt, Rat.divInt_ofNat, Rat.mkRat_self]
theorem rat_int {a : Rat} (h : a.den = 1) : (a.num : Rat) = a := by
  have h1 := Rat.mkRat_self a
  rw [h] at h1
  rw [← h1]
  refine Rat.ext ?_ ?_
  · rw [Rat.num_mkRat]; simp
  · rw [Rat.den_mkRat]; simp
theorem len_mul {i j : Int} {n m : Nat} (h : (limbs i.natAbs).length ≤ n) (k : (limbs j.natAbs).length ≤ m) : (limbs (i * j).natAbs).length ≤ n + m := by
  rw [Int.natAbs_mul]
  exact Nat.le_trans (limbs_length_mul _ _) (Nat.add_le_add h k)
theorem len_add {i j : Int} {n : Nat} (h : (limbs i.natAbs).length ≤ n) (k : (limbs j.natAbs).length ≤ n) : (limbs (i + j).natAbs).length ≤ n + 1 := by
  refine Nat.le_trans (limbs_length_mono (Int.natAbs_add_le i j)) (Nat.le_trans (limbs_length_add _ _) ?_)
  have := Nat.max_le.2 ⟨h, k⟩
  omega

set_option maxRecDepth 100000 in
set_option maxHeartbeats 4000000 in
theorem add_rat (va vb : Value) (p q : Rat) (w : World) (ha : IsRat w va p) (hb : IsRat w vb q) (hla : RatLen p 4398046511104) (hlb : RatLen q 4398046511104) :
    Calls Tryz.prog 112 #[va, vb] w fun e w' => ∃ u, e = .returned u ∧ IsRat w' u (p + q) ∧ Ext w w' := by
  obtain ⟨ba, sa, ta, rfl, oa1, oa2, HA0⟩ := ha.unpack
  obtain ⟨bb, sb, tb, rfl, ob1, ob2, HB0⟩ := hb.unpack
  clear ha hb oa1 oa2 ob1 ob2
  have HLA := hide hla
  have HLB := hide hlb
  clear hla hlb
  have hdec : (p.den = 1 ∧ q.den = 1) ∨ ¬ (p.den = 1 ∧ q.den = 1) := Decidable.em _
  obtain ⟨da, hda⟩ : ∃ d : Bool, decide (p.den = 1) = d := ⟨_, rfl⟩
  obtain ⟨db, hdb⟩ : ∃ d : Bool, decide (q.den = 1) = d := ⟨_, rfl⟩
  have HDA := hide hda
  have HDB := hide hdb
  clear hdec hda hdb
  go_enter Tryz.func112, Tryz.ntmps112
  go_wp2_with fail
  generalize hw1 : (((w.alloc _).alloc _).alloc _) = w1
  have B0 : Blk w1 (w.heap.size) 113 #[.bool ba, sa, .bool false, ta] := by rw [← hw1]; exact (((Blk.new' _ _ _ _ (by simp)).alloc _).alloc _)
  have B1 : Blk w1 (w.heap.size + 1) 113 #[.bool bb, sb, .bool false, tb] := by rw [← hw1]; exact ((Blk.new' _ _ _ _ (by simp)).alloc _)
  have B2 : Blk w1 (w.heap.size + 2) 113 #[.bool false, .slice none 0 0, .bool false, .slice none 0 0] := by rw [← hw1]; exact (Blk.new' _ _ _ _ (by simp))
  have E1 : Ext w w1 := by rw [← hw1]; exact ((((Below.refl _ _).alloc (Nat.le_refl _) _).alloc (by simp <;> omega) _).alloc (by simp <;> omega) _)
  clear hw1
  have HA := hide (HA0.out.ext E1)
  have HB := hide (HB0.out.ext E1)
  clear HA0 HB0
  refine (integer_any _ p w1 HA.out).mono ?_
  rintro e w2 ⟨rfl, E2⟩
  rw [HDA.out]
  have B0 := B0.ext E2
  have B1 := B1.ext E2
  have B2 := B2.ext E2
  replace HA := hide (HA.out.ext E2)
  replace HB := hide (HB.out.ext E2)
  have EE := E1.tr E2
  have a0 := B0.cell 0
  have a1 := B0.cell 1
  have a2 := B0.cell 2
  have a3 := B0.cell 3
  have b0 := B1.cell 0
  have b1 := B1.cell 1
  have b2 := B1.cell 2
  have b3 := B1.cell 3
  simp at a0 a1 a2 a3 b0 b1 b2 b3
  cases da
  · go_wp2_with fail
    clear a0 a1 a2 a3 b0 b1 b2 b3
    obtain ⟨Gs, hGs⟩ : ∃ Gs : List (Value → World → Prop), Gs = [(fun v _ => v = .pointer (some ⟨w.heap.size, 0, none⟩)), (fun v _ => v = .agg #[.bool ba, sa]), (fun v _ => v = .pointer (some ⟨(w.heap.size + 1), 2, none⟩)), (fun v _ => v = .agg #[.bool false, tb]), (fun v W => IsInt W v (p.num * q.den)), (fun v _ => v = .pointer (some ⟨(w.heap.size + 1), 0, none⟩)), (fun v _ => v = .agg #[.bool bb, sb]), (fun v _ => v = .pointer (some ⟨w.heap.size, 2, none⟩)), (fun v _ => v = .agg #[.bool false, ta]), (fun v W => IsInt W v (q.num * p.den)), (fun v W => IsInt W v (p.num * q.den + q.num * p.den)), (fun v _ => v = .pointer (some ⟨w.heap.size, 2, none⟩)), (fun v _ => v = .agg #[.bool false, ta]), (fun v _ => v = .pointer (some ⟨(w.heap.size + 1), 2, none⟩)), (fun v _ => v = .agg #[.bool false, tb]), (fun v W => IsInt W v ((p.den : Int) * q.den)), (fun v W => IsRat W v (p + q))] := ⟨_, rfl⟩
    have hst : Flow.Stay Ext Gs := by rw [hGs]; exact (Flow.Stay.cons (fun _ _ _ _ h => h) (Flow.Stay.cons (fun _ _ _ _ h => h) (Flow.Stay.cons (fun _ _ _ _ h => h) (Flow.Stay.cons (fun _ _ _ _ h => h) (Flow.Stay.cons (fun _ _ E _ h => IsInt.ext h E) (Flow.Stay.cons (fun _ _ _ _ h => h) (Flow.Stay.cons (fun _ _ _ _ h => h) (Flow.Stay.cons (fun _ _ _ _ h => h) (Flow.Stay.cons (fun _ _ _ _ h => h) (Flow.Stay.cons (fun _ _ E _ h => IsInt.ext h E) (Flow.Stay.cons (fun _ _ E _ h => IsInt.ext h E) (Flow.Stay.cons (fun _ _ _ _ h => h) (Flow.Stay.cons (fun _ _ _ _ h => h) (Flow.Stay.cons (fun _ _ _ _ h => h) (Flow.Stay.cons (fun _ _ _ _ h => h) (Flow.Stay.cons (fun _ _ E _ h => IsInt.ext h E) (Flow.Stay.cons (fun _ _ E _ h => IsRat.ext h E) Flow.Stay.nil)))))))))))))))))
    refine Flow.wp_region_flow 17 (by kernel_rfl) (fun W => Ext w2 W) Gs (by kernel_rfl) (Ext.rfl' w2).drew ?flowsteps ?flowend
    case flowsteps =>
      refine ⟨?_, ?_, ?_, ?_, ?_, ?_, ?_, ?_, ?_, ?_, ?_, ?_, ?_, ?_, ?_, ?_, ?_, trivial⟩
      · refine Flow.step_val rfl fun a W hb hI hd => ?_
        have h2 : a.eval (.tmp 2) = .pointer (some ⟨w.heap.size, 0, none⟩) := hb.pre' 2 (by kernel_rfl)
        have g2 : a.tmps[2]?.getD undef = .pointer (some ⟨w.heap.size, 0, none⟩) := by have h := h2; simp only [Act.eval, Array.getD_eq_getD_getElem?] at h; exact h
        exact ⟨.pointer (some ⟨w.heap.size, 0, none⟩), by simp [go_sem, g2], by rw [hGs]; rfl⟩
      · refine Flow.step_val rfl fun a W hb hI hd => ?_
        have h17 : a.eval (.tmp 17) = .pointer (some ⟨w.heap.size, 0, none⟩) := by have h := hd _ (Array.mem_of_getElem? (i := 0) rfl) rfl; rw [hGs] at h; exact h
        exact ⟨_, run_load2 h17 (by have h := (B0.ext hI).cell 0; exact h) (by have h := (B0.ext hI).cell 1; exact h), by rw [hGs]; rfl⟩
      · refine Flow.step_val rfl fun a W hb hI hd => ?_
        have h3 : a.eval (.tmp 3) = .pointer (some ⟨(w.heap.size + 1), 0, none⟩) := hb.pre' 3 (by kernel_rfl)
        have g3 : a.tmps[3]?.getD undef = .pointer (some ⟨(w.heap.size + 1), 0, none⟩) := by have h := h3; simp only [Act.eval, Array.getD_eq_getD_getElem?] at h; exact h
        exact ⟨.pointer (some ⟨(w.heap.size + 1), 2, none⟩), by simp [go_sem, g3], by rw [hGs]; rfl⟩
      · refine Flow.step_val rfl fun a W hb hI hd => ?_
        have h19 : a.eval (.tmp 19) = .pointer (some ⟨(w.heap.size + 1), 2, none⟩) := by have h := hd _ (Array.mem_of_getElem? (i := 0) rfl) rfl; rw [hGs] at h; exact h
        exact ⟨_, run_load2 h19 (by have h := (B1.ext hI).cell 2; exact h) (by have h := (B1.ext hI).cell 3; exact h), by rw [hGs]; rfl⟩
      · refine Flow.step_call rfl fun a W hb hI hd => ?_
        have h18 : a.eval (.tmp 18) = .agg #[.bool ba, sa] := by have h := hd _ (Array.mem_of_getElem? (i := 0) rfl) rfl; rw [hGs] at h; exact h
        have h20 : a.eval (.tmp 20) = .agg #[.bool false, tb] := by have h := hd _ (Array.mem_of_getElem? (i := 1) rfl) rfl; rw [hGs] at h; exact h
        refine ⟨65, #[a.eval (.tmp 18), a.eval (.tmp 20)], Flow.run_enter (enters_of Tryz.func65 (by kernel_rfl) rfl) (by simp), ?_⟩
        rw [h18, h20]
        refine (mul_any _ _ _ _ W (HA.out.ext hI).num (HB.out.ext hI).den (by have h1 := HLA.out.1; have h2 := HLB.out.2; rw [Int.natAbs_natCast]; omega)).mono ?_
        rintro e w' ⟨v, rfl, hm, hE⟩
        exact ⟨v, rfl, by rw [hGs]; exact hm, hI.tr hE, hst.at hE⟩
      · refine Flow.step_val rfl fun a W hb hI hd => ?_
        have h3 : a.eval (.tmp 3) = .pointer (some ⟨(w.heap.size + 1), 0, none⟩) := hb.pre' 3 (by kernel_rfl)
        have g3 : a.tmps[3]?.getD undef = .pointer (some ⟨(w.heap.size + 1), 0, none⟩) := by have h := h3; simp only [Act.eval, Array.getD_eq_getD_getElem?] at h; exact h
        exact ⟨.pointer (some ⟨(w.heap.size + 1), 0, none⟩), by simp [go_sem, g3], by rw [hGs]; rfl⟩
      · refine Flow.step_val rfl fun a W hb hI hd => ?_
        have h22 : a.eval (.tmp 22) = .pointer (some ⟨(w.heap.size + 1), 0, none⟩) := by have h := hd _ (Array.mem_of_getElem? (i := 0) rfl) rfl; rw [hGs] at h; exact h
        exact ⟨_, run_load2 h22 (by have h := (B1.ext hI).cell 0; exact h) (by have h := (B1.ext hI).cell 1; exact h), by rw [hGs]; rfl⟩
      · refine Flow.step_val rfl fun a W hb hI hd => ?_
        have h2 : a.eval (.tmp 2) = .pointer (some ⟨w.heap.size, 0, none⟩) := hb.pre' 2 (by kernel_rfl)
        have g2 : a.tmps[2]?.getD undef = .pointer (some ⟨w.heap.size, 0, none⟩) := by have h := h2; simp only [Act.eval, Array.getD_eq_getD_getElem?] at h; exact h
        exact ⟨.pointer (some ⟨w.heap.size, 2, none⟩), by simp [go_sem, g2], by rw [hGs]; rfl⟩
      · refine Flow.step_val rfl fun a W hb hI hd => ?_
        have h24 : a.eval (.tmp 24) = .pointer (some ⟨w.heap.size, 2, none⟩) := by have h := hd _ (Array.mem_of_getElem? (i := 0) rfl) rfl; rw [hGs] at h; exact h
        exact ⟨_, run_load2 h24 (by have h := (B0.ext hI).cell 2; exact h) (by have h := (B0.ext hI).cell 3; exact h), by rw [hGs]; rfl⟩
      · refine Flow.step_call rfl fun a W hb hI hd => ?_
        have h23 : a.eval (.tmp 23) = .agg #[.bool bb, sb] := by have h := hd _ (Array.mem_of_getElem? (i := 0) rfl) rfl; rw [hGs] at h; exact h
        have h25 : a.eval (.tmp 25) = .agg #[.bool false, ta] := by have h := hd _ (Array.mem_of_getElem? (i := 1) rfl) rfl; rw [hGs] at h; exact h
        refine ⟨65, #[a.eval (.tmp 23), a.eval (.tmp 25)], Flow.run_enter (enters_of Tryz.func65 (by kernel_rfl) rfl) (by simp), ?_⟩
        rw [h23, h25]
        refine (mul_any _ _ _ _ W (HB.out.ext hI).num (HA.out.ext hI).den (by have h1 := HLB.out.1; have h2 := HLA.out.2; rw [Int.natAbs_natCast]; omega)).mono ?_
        rintro e w' ⟨v, rfl, hm, hE⟩
        exact ⟨v, rfl, by rw [hGs]; exact hm, hI.tr hE, hst.at hE⟩
      · refine Flow.step_call rfl fun a W hb hI hd => ?_
        have h21 : (fun v W => IsInt W v (p.num * q.den)) (a.eval (.tmp 21)) W := by have h := hd _ (Array.mem_of_getElem? (i := 0) rfl) rfl; rw [hGs] at h; exact h
        have h26 : (fun v W => IsInt W v (q.num * p.den)) (a.eval (.tmp 26)) W := by have h := hd _ (Array.mem_of_getElem? (i := 1) rfl) rfl; rw [hGs] at h; exact h
        refine ⟨116, #[a.eval (.tmp 21), a.eval (.tmp 26)], Flow.run_enter (enters_of Tryz.func116 (by kernel_rfl) rfl) (by simp), ?_⟩
        refine (add_any _ _ _ _ W h21 h26 (Nat.le_trans (len_mul HLA.out.1 (by rw [Int.natAbs_natCast]; exact HLB.out.2)) (by decide)) (Nat.le_trans (len_mul HLB.out.1 (by rw [Int.natAbs_natCast]; exact HLA.out.2)) (by decide))).mono ?_
        rintro e w' ⟨v, rfl, hm, hE⟩
        exact ⟨v, rfl, by rw [hGs]; exact hm, hI.tr hE, hst.at hE⟩
      · refine Flow.step_val rfl fun a W hb hI hd => ?_
        have h2 : a.eval (.tmp 2) = .pointer (some ⟨w.heap.size, 0, none⟩) := hb.pre' 2 (by kernel_rfl)
        have g2 : a.tmps[2]?.getD undef = .pointer (some ⟨w.heap.size, 0, none⟩) := by have h := h2; simp only [Act.eval, Array.getD_eq_getD_getElem?] at h; exact h
        exact ⟨.pointer (some ⟨w.heap.size, 2, none⟩), by simp [go_sem, g2], by rw [hGs]; rfl⟩
      · refine Flow.step_val rfl fun a W hb hI hd => ?_
        have h28 : a.eval (.tmp 28) = .pointer (some ⟨w.heap.size, 2, none⟩) := by have h := hd _ (Array.mem_of_getElem? (i := 0) rfl) rfl; rw [hGs] at h; exact h
        exact ⟨_, run_load2 h28 (by have h := (B0.ext hI).cell 2; exact h) (by have h := (B0.ext hI).cell 3; exact h), by rw [hGs]; rfl⟩
      · refine Flow.step_val rfl fun a W hb hI hd => ?_
        have h3 : a.eval (.tmp 3) = .pointer (some ⟨(w.heap.size + 1), 0, none⟩) := hb.pre' 3 (by kernel_rfl)
        have g3 : a.tmps[3]?.getD undef = .pointer (some ⟨(w.heap.size + 1), 0, none⟩) := by have h := h3; simp only [Act.eval, Array.getD_eq_getD_getElem?] at h; exact h
        exact ⟨.pointer (some ⟨(w.heap.size + 1), 2, none⟩), by simp [go_sem, g3], by rw [hGs]; rfl⟩
      · refine Flow.step_val rfl fun a W hb hI hd => ?_
        have h30 : a.eval (.tmp 30) = .pointer (some ⟨(w.heap.size + 1), 2, none⟩) := by have h := hd _ (Array.mem_of_getElem? (i := 0) rfl) rfl; rw [hGs] at h; exact h
        exact ⟨_, run_load2 h30 (by have h := (B1.ext hI).cell 2; exact h) (by have h := (B1.ext hI).cell 3; exact h), by rw [hGs]; rfl⟩
      · refine Flow.step_call rfl fun a W hb hI hd => ?_
        have h29 : a.eval (.tmp 29) = .agg #[.bool false, ta] := by have h := hd _ (Array.mem_of_getElem? (i := 0) rfl) rfl; rw [hGs] at h; exact h
        have h31 : a.eval (.tmp 31) = .agg #[.bool false, tb] := by have h := hd _ (Array.mem_of_getElem? (i := 1) rfl) rfl; rw [hGs] at h; exact h
        refine ⟨65, #[a.eval (.tmp 29), a.eval (.tmp 31)], Flow.run_enter (enters_of Tryz.func65 (by kernel_rfl) rfl) (by simp), ?_⟩
        rw [h29, h31]
        refine (mul_any _ _ _ _ W (HA.out.ext hI).den (HB.out.ext hI).den (by have h1 := HLB.out.2; have h2 := HLA.out.2; rw [Int.natAbs_natCast, Int.natAbs_natCast]; omega)).mono ?_
        rintro e w' ⟨v, rfl, hm, hE⟩
        exact ⟨v, rfl, by rw [hGs]; exact hm, hI.tr hE, hst.at hE⟩
      · refine Flow.step_call rfl fun a W hb hI hd => ?_
        have h27 : (fun v W => IsInt W v (p.num * q.den + q.num * p.den)) (a.eval (.tmp 27)) W := by have h := hd _ (Array.mem_of_getElem? (i := 0) rfl) rfl; rw [hGs] at h; exact h
        have h32 : (fun v W => IsInt W v ((p.den : Int) * q.den)) (a.eval (.tmp 32)) W := by have h := hd _ (Array.mem_of_getElem? (i := 1) rfl) rfl; rw [hGs] at h; exact h
        refine ⟨119, #[a.eval (.tmp 27), a.eval (.tmp 32)], Flow.run_enter (enters_of Tryz.func119 (by kernel_rfl) rfl) (by simp), ?_⟩
        refine (ratio_any _ _ _ _ W h27 h32 (Int.ne_of_gt (Int.mul_pos (rat_den_pos p) (rat_den_pos q))) (Nat.le_trans (len_add (len_mul HLA.out.1 (by rw [Int.natAbs_natCast]; exact HLB.out.2)) (len_mul HLB.out.1 (by rw [Int.natAbs_natCast]; exact HLA.out.2))) (by decide)) (Nat.le_trans (len_mul (by rw [Int.natAbs_natCast]; exact HLA.out.2) (by rw [Int.natAbs_natCast]; exact HLB.out.2)) (by decide))).mono ?_
        rw [add_divInt]
        rintro e w' ⟨v, rfl, hm, hE⟩
        exact ⟨v, rfl, by rw [hGs]; exact hm, hI.tr hE, hst.at hE⟩
    case flowend =>
      rw [hGs]
      refine fun W hI v0 h0 v1 h1 v2 h2 v3 h3 v4 h4 v5 h5 v6 h6 v7 h7 v8 h8 v9 h9 v10 h10 v11 h11 v12 h12 v13 h13 v14 h14 v15 h15 v16 h16 => ?_
      obtain rfl : .pointer (some ⟨w.heap.size, 0, none⟩) = v0 := Eq.symm h0; clear h0
      obtain rfl : .agg #[.bool ba, sa] = v1 := Eq.symm h1; clear h1
      obtain rfl : .pointer (some ⟨(w.heap.size + 1), 2, none⟩) = v2 := Eq.symm h2; clear h2
      obtain rfl : .agg #[.bool false, tb] = v3 := Eq.symm h3; clear h3
      replace h4 : (fun v W => IsInt W v (p.num * q.den)) v4 W := h4
      obtain rfl : .pointer (some ⟨(w.heap.size + 1), 0, none⟩) = v5 := Eq.symm h5; clear h5
      obtain rfl : .agg #[.bool bb, sb] = v6 := Eq.symm h6; clear h6
      obtain rfl : .pointer (some ⟨w.heap.size, 2, none⟩) = v7 := Eq.symm h7; clear h7
      obtain rfl : .agg #[.bool false, ta] = v8 := Eq.symm h8; clear h8
      replace h9 : (fun v W => IsInt W v (q.num * p.den)) v9 W := h9
      replace h10 : (fun v W => IsInt W v (p.num * q.den + q.num * p.den)) v10 W := h10
      obtain rfl : .pointer (some ⟨w.heap.size, 2, none⟩) = v11 := Eq.symm h11; clear h11
      obtain rfl : .agg #[.bool false, ta] = v12 := Eq.symm h12; clear h12
      obtain rfl : .pointer (some ⟨(w.heap.size + 1), 2, none⟩) = v13 := Eq.symm h13; clear h13
      obtain rfl : .agg #[.bool false, tb] = v14 := Eq.symm h14; clear h14
      replace h15 : (fun v W => IsInt W v ((p.den : Int) * q.den)) v15 W := h15
      replace h16 : (fun v W => IsRat W v (p + q)) v16 W := h16
      clear hst hGs
      show wpList _ _ _ _ _ _
      simp only [List.drop_succ_cons, List.drop_zero, Act.put, List.setIfInBounds_toArray, List.set_cons_zero, List.set_cons_succ]
      obtain ⟨bq, s', t', rfl, st1, st2, HR⟩ := h16.unpack
      clear h16
      replace st1 := st_any st1
      replace st2 := st_any st2
      have C := B2.ext hI
      have c0 := C.cell 0
      have c1 := C.cell 1
      have c2 := C.cell 2
      have c3 := C.cell 3
      have f0 := C.frozen 0
      have f1 := C.frozen 1
      have f2 := C.frozen 2
      have f3 := C.frozen 3
      simp at c0 c1 c2 c3
      go_wp2
      exact end_rat rfl rfl rfl C (EE.tr hI) (by omega) HR.out fun v W' h hE => ⟨_, rfl, h, hE⟩
  · go_wp2_with fail
    refine (integer_any _ q w2 HB.out).mono ?_
    rintro e w3 ⟨rfl, E3⟩
    rw [HDB.out]
    clear a0 a1 a2 a3 b0 b1 b2 b3
    have B0 := B0.ext E3
    have B1 := B1.ext E3
    have B2 := B2.ext E3
    replace HA := hide (HA.out.ext E3)
    replace HB := hide (HB.out.ext E3)
    replace EE := EE.tr E3
    have a0 := B0.cell 0
    have a1 := B0.cell 1
    have a2 := B0.cell 2
    have a3 := B0.cell 3
    have b0 := B1.cell 0
    have b1 := B1.cell 1
    have b2 := B1.cell 2
    have b3 := B1.cell 3
    simp at a0 a1 a2 a3 b0 b1 b2 b3
    cases db
    · go_wp2_with fail
      clear a0 a1 a2 a3 b0 b1 b2 b3
      obtain ⟨Gs, hGs⟩ : ∃ Gs : List (Value → World → Prop), Gs = [(fun v _ => v = .pointer (some ⟨w.heap.size, 0, none⟩)), (fun v _ => v = .agg #[.bool ba, sa]), (fun v _ => v = .pointer (some ⟨(w.heap.size + 1), 2, none⟩)), (fun v _ => v = .agg #[.bool false, tb]), (fun v W => IsInt W v (p.num * q.den)), (fun v _ => v = .pointer (some ⟨(w.heap.size + 1), 0, none⟩)), (fun v _ => v = .agg #[.bool bb, sb]), (fun v _ => v = .pointer (some ⟨w.heap.size, 2, none⟩)), (fun v _ => v = .agg #[.bool false, ta]), (fun v W => IsInt W v (q.num * p.den)), (fun v W => IsInt W v (p.num * q.den + q.num * p.den)), (fun v _ => v = .pointer (some ⟨w.heap.size, 2, none⟩)), (fun v _ => v = .agg #[.bool false, ta]), (fun v _ => v = .pointer (some ⟨(w.heap.size + 1), 2, none⟩)), (fun v _ => v = .agg #[.bool false, tb]), (fun v W => IsInt W v ((p.den : Int) * q.den)), (fun v W => IsRat W v (p + q))] := ⟨_, rfl⟩
      have hst : Flow.Stay Ext Gs := by rw [hGs]; exact (Flow.Stay.cons (fun _ _ _ _ h => h) (Flow.Stay.cons (fun _ _ _ _ h => h) (Flow.Stay.cons (fun _ _ _ _ h => h) (Flow.Stay.cons (fun _ _ _ _ h => h) (Flow.Stay.cons (fun _ _ E _ h => IsInt.ext h E) (Flow.Stay.cons (fun _ _ _ _ h => h) (Flow.Stay.cons (fun _ _ _ _ h => h) (Flow.Stay.cons (fun _ _ _ _ h => h) (Flow.Stay.cons (fun _ _ _ _ h => h) (Flow.Stay.cons (fun _ _ E _ h => IsInt.ext h E) (Flow.Stay.cons (fun _ _ E _ h => IsInt.ext h E) (Flow.Stay.cons (fun _ _ _ _ h => h) (Flow.Stay.cons (fun _ _ _ _ h => h) (Flow.Stay.cons (fun _ _ _ _ h => h) (Flow.Stay.cons (fun _ _ _ _ h => h) (Flow.Stay.cons (fun _ _ E _ h => IsInt.ext h E) (Flow.Stay.cons (fun _ _ E _ h => IsRat.ext h E) Flow.Stay.nil)))))))))))))))))
      refine Flow.wp_region_flow 17 (by kernel_rfl) (fun W => Ext w3 W) Gs (by kernel_rfl) (Ext.rfl' w3).drew ?flowsteps ?flowend
      case flowsteps =>
        refine ⟨?_, ?_, ?_, ?_, ?_, ?_, ?_, ?_, ?_, ?_, ?_, ?_, ?_, ?_, ?_, ?_, ?_, trivial⟩
        · refine Flow.step_val rfl fun a W hb hI hd => ?_
          have h2 : a.eval (.tmp 2) = .pointer (some ⟨w.heap.size, 0, none⟩) := hb.pre' 2 (by kernel_rfl)
          have g2 : a.tmps[2]?.getD undef = .pointer (some ⟨w.heap.size, 0, none⟩) := by have h := h2; simp only [Act.eval, Array.getD_eq_getD_getElem?] at h; exact h
          exact ⟨.pointer (some ⟨w.heap.size, 0, none⟩), by simp [go_sem, g2], by rw [hGs]; rfl⟩
        · refine Flow.step_val rfl fun a W hb hI hd => ?_
          have h17 : a.eval (.tmp 17) = .pointer (some ⟨w.heap.size, 0, none⟩) := by have h := hd _ (Array.mem_of_getElem? (i := 0) rfl) rfl; rw [hGs] at h; exact h
          exact ⟨_, run_load2 h17 (by have h := (B0.ext hI).cell 0; exact h) (by have h := (B0.ext hI).cell 1; exact h), by rw [hGs]; rfl⟩
        · refine Flow.step_val rfl fun a W hb hI hd => ?_
          have h3 : a.eval (.tmp 3) = .pointer (some ⟨(w.heap.size + 1), 0, none⟩) := hb.pre' 3 (by kernel_rfl)
          have g3 : a.tmps[3]?.getD undef = .pointer (some ⟨(w.heap.size + 1), 0, none⟩) := by have h := h3; simp only [Act.eval, Array.getD_eq_getD_getElem?] at h; exact h
          exact ⟨.pointer (some ⟨(w.heap.size + 1), 2, none⟩), by simp [go_sem, g3], by rw [hGs]; rfl⟩
        · refine Flow.step_val rfl fun a W hb hI hd => ?_
          have h19 : a.eval (.tmp 19) = .pointer (some ⟨(w.heap.size + 1), 2, none⟩) := by have h := hd _ (Array.mem_of_getElem? (i := 0) rfl) rfl; rw [hGs] at h; exact h
          exact ⟨_, run_load2 h19 (by have h := (B1.ext hI).cell 2; exact h) (by have h := (B1.ext hI).cell 3; exact h), by rw [hGs]; rfl⟩
        · refine Flow.step_call rfl fun a W hb hI hd => ?_
          have h18 : a.eval (.tmp 18) = .agg #[.bool ba, sa] := by have h := hd _ (Array.mem_of_getElem? (i := 0) rfl) rfl; rw [hGs] at h; exact h
          have h20 : a.eval (.tmp 20) = .agg #[.bool false, tb] := by have h := hd _ (Array.mem_of_getElem? (i := 1) rfl) rfl; rw [hGs] at h; exact h
          refine ⟨65, #[a.eval (.tmp 18), a.eval (.tmp 20)], Flow.run_enter (enters_of Tryz.func65 (by kernel_rfl) rfl) (by simp), ?_⟩
          rw [h18, h20]
          refine (mul_any _ _ _ _ W (HA.out.ext hI).num (HB.out.ext hI).den (by have h1 := HLA.out.1; have h2 := HLB.out.2; rw [Int.natAbs_natCast]; omega)).mono ?_
          rintro e w' ⟨v, rfl, hm, hE⟩
          exact ⟨v, rfl, by rw [hGs]; exact hm, hI.tr hE, hst.at hE⟩
        · refine Flow.step_val rfl fun a W hb hI hd => ?_
          have h3 : a.eval (.tmp 3) = .pointer (some ⟨(w.heap.size + 1), 0, none⟩) := hb.pre' 3 (by kernel_rfl)
          have g3 : a.tmps[3]?.getD undef = .pointer (some ⟨(w.heap.size + 1), 0, none⟩) := by have h := h3; simp only [Act.eval, Array.getD_eq_getD_getElem?] at h; exact h
          exact ⟨.pointer (some ⟨(w.heap.size + 1), 0, none⟩), by simp [go_sem, g3], by rw [hGs]; rfl⟩
        · refine Flow.step_val rfl fun a W hb hI hd => ?_
          have h22 : a.eval (.tmp 22) = .pointer (some ⟨(w.heap.size + 1), 0, none⟩) := by have h := hd _ (Array.mem_of_getElem? (i := 0) rfl) rfl; rw [hGs] at h; exact h
          exact ⟨_, run_load2 h22 (by have h := (B1.ext hI).cell 0; exact h) (by have h := (B1.ext hI).cell 1; exact h), by rw [hGs]; rfl⟩
        · refine Flow.step_val rfl fun a W hb hI hd => ?_
          have h2 : a.eval (.tmp 2) = .pointer (some ⟨w.heap.size, 0, none⟩) := hb.pre' 2 (by kernel_rfl)
          have g2 : a.tmps[2]?.getD undef = .pointer (some ⟨w.heap.size, 0, none⟩) := by have h := h2; simp only [Act.eval, Array.getD_eq_getD_getElem?] at h; exact h
          exact ⟨.pointer (some ⟨w.heap.size, 2, none⟩), by simp [go_sem, g2], by rw [hGs]; rfl⟩
        · refine Flow.step_val rfl fun a W hb hI hd => ?_
          have h24 : a.eval (.tmp 24) = .pointer (some ⟨w.heap.size, 2, none⟩) := by have h := hd _ (Array.mem_of_getElem? (i := 0) rfl) rfl; rw [hGs] at h; exact h
          exact ⟨_, run_load2 h24 (by have h := (B0.ext hI).cell 2; exact h) (by have h := (B0.ext hI).cell 3; exact h), by rw [hGs]; rfl⟩
        · refine Flow.step_call rfl fun a W hb hI hd => ?_
          have h23 : a.eval (.tmp 23) = .agg #[.bool bb, sb] := by have h := hd _ (Array.mem_of_getElem? (i := 0) rfl) rfl; rw [hGs] at h; exact h
          have h25 : a.eval (.tmp 25) = .agg #[.bool false, ta] := by have h := hd _ (Array.mem_of_getElem? (i := 1) rfl) rfl; rw [hGs] at h; exact h
          refine ⟨65, #[a.eval (.tmp 23), a.eval (.tmp 25)], Flow.run_enter (enters_of Tryz.func65 (by kernel_rfl) rfl) (by simp), ?_⟩
          rw [h23, h25]
          refine (mul_any _ _ _ _ W (HB.out.ext hI).num (HA.out.ext hI).den (by have h1 := HLB.out.1; have h2 := HLA.out.2; rw [Int.natAbs_natCast]; omega)).mono ?_
          rintro e w' ⟨v, rfl, hm, hE⟩
          exact ⟨v, rfl, by rw [hGs]; exact hm, hI.tr hE, hst.at hE⟩
        · refine Flow.step_call rfl fun a W hb hI hd => ?_
          have h21 : (fun v W => IsInt W v (p.num * q.den)) (a.eval (.tmp 21)) W := by have h := hd _ (Array.mem_of_getElem? (i := 0) rfl) rfl; rw [hGs] at h; exact h
          have h26 : (fun v W => IsInt W v (q.num * p.den)) (a.eval (.tmp 26)) W := by have h := hd _ (Array.mem_of_getElem? (i := 1) rfl) rfl; rw [hGs] at h; exact h
          refine ⟨116, #[a.eval (.tmp 21), a.eval (.tmp 26)], Flow.run_enter (enters_of Tryz.func116 (by kernel_rfl) rfl) (by simp), ?_⟩
          refine (add_any _ _ _ _ W h21 h26 (Nat.le_trans (len_mul HLA.out.1 (by rw [Int.natAbs_natCast]; exact HLB.out.2)) (by decide)) (Nat.le_trans (len_mul HLB.out.1 (by rw [Int.natAbs_natCast]; exact HLA.out.2)) (by decide))).mono ?_
          rintro e w' ⟨v, rfl, hm, hE⟩
          exact ⟨v, rfl, by rw [hGs]; exact hm, hI.tr hE, hst.at hE⟩
        · refine Flow.step_val rfl fun a W hb hI hd => ?_
          have h2 : a.eval (.tmp 2) = .pointer (some ⟨w.heap.size, 0, none⟩) := hb.pre' 2 (by kernel_rfl)
          have g2 : a.tmps[2]?.getD undef = .pointer (some ⟨w.heap.size, 0, none⟩) := by have h := h2; simp only [Act.eval, Array.getD_eq_getD_getElem?] at h; exact h
          exact ⟨.pointer (some ⟨w.heap.size, 2, none⟩), by simp [go_sem, g2], by rw [hGs]; rfl⟩
        · refine Flow.step_val rfl fun a W hb hI hd => ?_
          have h28 : a.eval (.tmp 28) = .pointer (some ⟨w.heap.size, 2, none⟩) := by have h := hd _ (Array.mem_of_getElem? (i := 0) rfl) rfl; rw [hGs] at h; exact h
          exact ⟨_, run_load2 h28 (by have h := (B0.ext hI).cell 2; exact h) (by have h := (B0.ext hI).cell 3; exact h), by rw [hGs]; rfl⟩
        · refine Flow.step_val rfl fun a W hb hI hd => ?_
          have h3 : a.eval (.tmp 3) = .pointer (some ⟨(w.heap.size + 1), 0, none⟩) := hb.pre' 3 (by kernel_rfl)
          have g3 : a.tmps[3]?.getD undef = .pointer (some ⟨(w.heap.size + 1), 0, none⟩) := by have h := h3; simp only [Act.eval, Array.getD_eq_getD_getElem?] at h; exact h
          exact ⟨.pointer (some ⟨(w.heap.size + 1), 2, none⟩), by simp [go_sem, g3], by rw [hGs]; rfl⟩
        · refine Flow.step_val rfl fun a W hb hI hd => ?_
          have h30 : a.eval (.tmp 30) = .pointer (some ⟨(w.heap.size + 1), 2, none⟩) := by have h := hd _ (Array.mem_of_getElem? (i := 0) rfl) rfl; rw [hGs] at h; exact h
          exact ⟨_, run_load2 h30 (by have h := (B1.ext hI).cell 2; exact h) (by have h := (B1.ext hI).cell 3; exact h), by rw [hGs]; rfl⟩
        · refine Flow.step_call rfl fun a W hb hI hd => ?_
          have h29 : a.eval (.tmp 29) = .agg #[.bool false, ta] := by have h := hd _ (Array.mem_of_getElem? (i := 0) rfl) rfl; rw [hGs] at h; exact h
          have h31 : a.eval (.tmp 31) = .agg #[.bool false, tb] := by have h := hd _ (Array.mem_of_getElem? (i := 1) rfl) rfl; rw [hGs] at h; exact h
          refine ⟨65, #[a.eval (.tmp 29), a.eval (.tmp 31)], Flow.run_enter (enters_of Tryz.func65 (by kernel_rfl) rfl) (by simp), ?_⟩
          rw [h29, h31]
          refine (mul_any _ _ _ _ W (HA.out.ext hI).den (HB.out.ext hI).den (by have h1 := HLB.out.2; have h2 := HLA.out.2; rw [Int.natAbs_natCast, Int.natAbs_natCast]; omega)).mono ?_
          rintro e w' ⟨v, rfl, hm, hE⟩
          exact ⟨v, rfl, by rw [hGs]; exact hm, hI.tr hE, hst.at hE⟩
        · refine Flow.step_call rfl fun a W hb hI hd => ?_
          have h27 : (fun v W => IsInt W v (p.num * q.den + q.num * p.den)) (a.eval (.tmp 27)) W := by have h := hd _ (Array.mem_of_getElem? (i := 0) rfl) rfl; rw [hGs] at h; exact h
          have h32 : (fun v W => IsInt W v ((p.den : Int) * q.den)) (a.eval (.tmp 32)) W := by have h := hd _ (Array.mem_of_getElem? (i := 1) rfl) rfl; rw [hGs] at h; exact h
          refine ⟨119, #[a.eval (.tmp 27), a.eval (.tmp 32)], Flow.run_enter (enters_of Tryz.func119 (by kernel_rfl) rfl) (by simp), ?_⟩
          refine (ratio_any _ _ _ _ W h27 h32 (Int.ne_of_gt (Int.mul_pos (rat_den_pos p) (rat_den_pos q))) (Nat.le_trans (len_add (len_mul HLA.out.1 (by rw [Int.natAbs_natCast]; exact HLB.out.2)) (len_mul HLB.out.1 (by rw [Int.natAbs_natCast]; exact HLA.out.2))) (by decide)) (Nat.le_trans (len_mul (by rw [Int.natAbs_natCast]; exact HLA.out.2) (by rw [Int.natAbs_natCast]; exact HLB.out.2)) (by decide))).mono ?_
          rw [add_divInt]
          rintro e w' ⟨v, rfl, hm, hE⟩
          exact ⟨v, rfl, by rw [hGs]; exact hm, hI.tr hE, hst.at hE⟩
      case flowend =>
        rw [hGs]
        refine fun W hI v0 h0 v1 h1 v2 h2 v3 h3 v4 h4 v5 h5 v6 h6 v7 h7 v8 h8 v9 h9 v10 h10 v11 h11 v12 h12 v13 h13 v14 h14 v15 h15 v16 h16 => ?_
        obtain rfl : .pointer (some ⟨w.heap.size, 0, none⟩) = v0 := Eq.symm h0; clear h0
        obtain rfl : .agg #[.bool ba, sa] = v1 := Eq.symm h1; clear h1
        obtain rfl : .pointer (some ⟨(w.heap.size + 1), 2, none⟩) = v2 := Eq.symm h2; clear h2
        obtain rfl : .agg #[.bool false, tb] = v3 := Eq.symm h3; clear h3
        replace h4 : (fun v W => IsInt W v (p.num * q.den)) v4 W := h4
        obtain rfl : .pointer (some ⟨(w.heap.size + 1), 0, none⟩) = v5 := Eq.symm h5; clear h5
        obtain rfl : .agg #[.bool bb, sb] = v6 := Eq.symm h6; clear h6
        obtain rfl : .pointer (some ⟨w.heap.size, 2, none⟩) = v7 := Eq.symm h7; clear h7
        obtain rfl : .agg #[.bool false, ta] = v8 := Eq.symm h8; clear h8
        replace h9 : (fun v W => IsInt W v (q.num * p.den)) v9 W := h9
        replace h10 : (fun v W => IsInt W v (p.num * q.den + q.num * p.den)) v10 W := h10
        obtain rfl : .pointer (some ⟨w.heap.size, 2, none⟩) = v11 := Eq.symm h11; clear h11
        obtain rfl : .agg #[.bool false, ta] = v12 := Eq.symm h12; clear h12
        obtain rfl : .pointer (some ⟨(w.heap.size + 1), 2, none⟩) = v13 := Eq.symm h13; clear h13
        obtain rfl : .agg #[.bool false, tb] = v14 := Eq.symm h14; clear h14
        replace h15 : (fun v W => IsInt W v ((p.den : Int) * q.den)) v15 W := h15
        replace h16 : (fun v W => IsRat W v (p + q)) v16 W := h16
        clear hst hGs
        show wpList _ _ _ _ _ _
        simp only [List.drop_succ_cons, List.drop_zero, Act.put, List.setIfInBounds_toArray, List.set_cons_zero, List.set_cons_succ]
        obtain ⟨bq, s', t', rfl, st1, st2, HR⟩ := h16.unpack
        clear h16
        replace st1 := st_any st1
        replace st2 := st_any st2
        have C := B2.ext hI
        have c0 := C.cell 0
        have c1 := C.cell 1
        have c2 := C.cell 2
        have c3 := C.cell 3
        have f0 := C.frozen 0
        have f1 := C.frozen 1
        have f2 := C.frozen 2
        have f3 := C.frozen 3
        simp at c0 c1 c2 c3
        go_wp2
        exact end_rat rfl rfl rfl C (EE.tr hI) (by omega) HR.out fun v W' h hE => ⟨_, rfl, h, hE⟩
    · go_wp2_with fail
      refine (add_any _ _ _ _ w3 HA.out.num HB.out.num (Nat.le_trans HLA.out.1 (by decide)) (Nat.le_trans HLB.out.1 (by decide))).mono ?_
      rintro e w4 ⟨u, rfl, hu, E4⟩
      have HU := hide hu
      clear hu
      clear a0 a1 a2 a3 b0 b1 b2 b3
      go_wp2_with fail
      refine (fromInt_any _ _ w4 HU.out).mono ?_
      rintro e w5 ⟨u', rfl, hu, E5⟩
      rw [show ((p.num + q.num : Int) : Rat) = p + q by have h1 := HDA.out; have h2 := HDB.out; simp only [decide_eq_true_eq] at h1 h2; rw [Rat.intCast_add, rat_int h1, rat_int h2]] at hu
      have EF := (EE.tr E4).tr E5
      obtain ⟨bq, s', t', rfl, st1, st2, HR⟩ := hu.unpack
      clear hu
      replace st1 := st_any st1
      replace st2 := st_any st2
      have C := (B2.ext E4).ext E5
      have c0 := C.cell 0
      have c1 := C.cell 1
      have c2 := C.cell 2
      have c3 := C.cell 3
      have f0 := C.frozen 0
      have f1 := C.frozen 1
      have f2 := C.frozen 2
      have f3 := C.frozen 3
      simp at c0 c1 c2 c3
      go_wp2
      exact end_rat rfl rfl rfl C (EF) (by omega) HR.out fun v W' h hE => ⟨_, rfl, h, hE⟩

set_option maxRecDepth 100000 in
set_option maxHeartbeats 4000000 in
theorem mul_rat (va vb : Value) (p q : Rat) (w : World) (ha : IsRat w va p) (hb : IsRat w vb q) (hla : RatLen p 4398046511104) (hlb : RatLen q 4398046511104) :
    Calls Tryz.prog 66 #[va, vb] w fun e w' => ∃ u, e = .returned u ∧ IsRat w' u (p * q) ∧ Ext w w' := by
  obtain ⟨ba, sa, ta, rfl, oa1, oa2, HA0⟩ := ha.unpack
  obtain ⟨bb, sb, tb, rfl, ob1, ob2, HB0⟩ := hb.unpack
  clear ha hb oa1 oa2 ob1 ob2
  have HLA := hide hla
  have HLB := hide hlb
  clear hla hlb
  have hdec : (p.den = 1 ∧ q.den = 1) ∨ ¬ (p.den = 1 ∧ q.den = 1) := Decidable.em _
  obtain ⟨da, hda⟩ : ∃ d : Bool, decide (p.den = 1) = d := ⟨_, rfl⟩
  obtain ⟨db, hdb⟩ : ∃ d : Bool, decide (q.den = 1) = d := ⟨_, rfl⟩
  have HDA := hide hda
  have HDB := hide hdb
  clear hdec hda hdb
  go_enter Tryz.func66, Tryz.ntmps66
  go_wp2_with fail
  generalize hw1 : (((w.alloc _).alloc _).alloc _) = w1
  have B0 : Blk w1 (w.heap.size) 113 #[.bool ba, sa, .bool false, ta] := by rw [← hw1]; exact (((Blk.new' _ _ _ _ (by simp)).alloc _).alloc _)
  have B1 : Blk w1 (w.heap.size + 1) 113 #[.bool bb, sb, .bool false, tb] := by rw [← hw1]; exact ((Blk.new' _ _ _ _ (by simp)).alloc _)
  have B2 : Blk w1 (w.heap.size + 2) 113 #[.bool false, .slice none 0 0, .bool false, .slice none 0 0] := by rw [← hw1]; exact (Blk.new' _ _ _ _ (by simp))
  have E1 : Ext w w1 := by rw [← hw1]; exact ((((Below.refl _ _).alloc (Nat.le_refl _) _).alloc (by simp <;> omega) _).alloc (by simp <;> omega) _)
  clear hw1
  have HA := hide (HA0.out.ext E1)
  have HB := hide (HB0.out.ext E1)
  clear HA0 HB0
  refine (integer_any _ p w1 HA.out).mono ?_
  rintro e w2 ⟨rfl, E2⟩
  rw [HDA.out]
  have B0 := B0.ext E2
  have B1 := B1.ext E2
  have B2 := B2.ext E2
  replace HA := hide (HA.out.ext E2)
  replace HB := hide (HB.out.ext E2)
  have EE := E1.tr E2
  have a0 := B0.cell 0
  have a1 := B0.cell 1
  have a2 := B0.cell 2
  have a3 := B0.cell 3
  have b0 := B1.cell 0
  have b1 := B1.cell 1
  have b2 := B1.cell 2
  have b3 := B1.cell 3
  simp at a0 a1 a2 a3 b0 b1 b2 b3
  cases da
  · go_wp2_with fail
    clear a0 a1 a2 a3 b0 b1 b2 b3
    obtain ⟨Gs, hGs⟩ : ∃ Gs : List (Value → World → Prop), Gs = [(fun v _ => v = .pointer (some ⟨w.heap.size, 0, none⟩)), (fun v _ => v = .agg #[.bool ba, sa]), (fun v _ => v = .pointer (some ⟨(w.heap.size + 1), 0, none⟩)), (fun v _ => v = .agg #[.bool bb, sb]), (fun v W => IsInt W v (p.num * q.num)), (fun v _ => v = .pointer (some ⟨w.heap.size, 2, none⟩)), (fun v _ => v = .agg #[.bool false, ta]), (fun v _ => v = .pointer (some ⟨(w.heap.size + 1), 2, none⟩)), (fun v _ => v = .agg #[.bool false, tb]), (fun v W => IsInt W v ((p.den : Int) * q.den)), (fun v W => IsRat W v (p * q))] := ⟨_, rfl⟩
    have hst : Flow.Stay Ext Gs := by rw [hGs]; exact (Flow.Stay.cons (fun _ _ _ _ h => h) (Flow.Stay.cons (fun _ _ _ _ h => h) (Flow.Stay.cons (fun _ _ _ _ h => h) (Flow.Stay.cons (fun _ _ _ _ h => h) (Flow.Stay.cons (fun _ _ E _ h => IsInt.ext h E) (Flow.Stay.cons (fun _ _ _ _ h => h) (Flow.Stay.cons (fun _ _ _ _ h => h) (Flow.Stay.cons (fun _ _ _ _ h => h) (Flow.Stay.cons (fun _ _ _ _ h => h) (Flow.Stay.cons (fun _ _ E _ h => IsInt.ext h E) (Flow.Stay.cons (fun _ _ E _ h => IsRat.ext h E) Flow.Stay.nil)))))))))))
    refine Flow.wp_region_flow 11 (by kernel_rfl) (fun W => Ext w2 W) Gs (by kernel_rfl) (Ext.rfl' w2).drew ?flowsteps ?flowend
    case flowsteps =>
      refine ⟨?_, ?_, ?_, ?_, ?_, ?_, ?_, ?_, ?_, ?_, ?_, trivial⟩
      · refine Flow.step_val rfl fun a W hb hI hd => ?_
        have h2 : a.eval (.tmp 2) = .pointer (some ⟨w.heap.size, 0, none⟩) := hb.pre' 2 (by kernel_rfl)
        have g2 : a.tmps[2]?.getD undef = .pointer (some ⟨w.heap.size, 0, none⟩) := by have h := h2; simp only [Act.eval, Array.getD_eq_getD_getElem?] at h; exact h
        exact ⟨.pointer (some ⟨w.heap.size, 0, none⟩), by simp [go_sem, g2], by rw [hGs]; rfl⟩
      · refine Flow.step_val rfl fun a W hb hI hd => ?_
        have h17 : a.eval (.tmp 17) = .pointer (some ⟨w.heap.size, 0, none⟩) := by have h := hd _ (Array.mem_of_getElem? (i := 0) rfl) rfl; rw [hGs] at h; exact h
        exact ⟨_, run_load2 h17 (by have h := (B0.ext hI).cell 0; exact h) (by have h := (B0.ext hI).cell 1; exact h), by rw [hGs]; rfl⟩
      · refine Flow.step_val rfl fun a W hb hI hd => ?_
        have h3 : a.eval (.tmp 3) = .pointer (some ⟨(w.heap.size + 1), 0, none⟩) := hb.pre' 3 (by kernel_rfl)
        have g3 : a.tmps[3]?.getD undef = .pointer (some ⟨(w.heap.size + 1), 0, none⟩) := by have h := h3; simp only [Act.eval, Array.getD_eq_getD_getElem?] at h; exact h
        exact ⟨.pointer (some ⟨(w.heap.size + 1), 0, none⟩), by simp [go_sem, g3], by rw [hGs]; rfl⟩
      · refine Flow.step_val rfl fun a W hb hI hd => ?_
        have h19 : a.eval (.tmp 19) = .pointer (some ⟨(w.heap.size + 1), 0, none⟩) := by have h := hd _ (Array.mem_of_getElem? (i := 0) rfl) rfl; rw [hGs] at h; exact h
        exact ⟨_, run_load2 h19 (by have h := (B1.ext hI).cell 0; exact h) (by have h := (B1.ext hI).cell 1; exact h), by rw [hGs]; rfl⟩
      · refine Flow.step_call rfl fun a W hb hI hd => ?_
        have h18 : a.eval (.tmp 18) = .agg #[.bool ba, sa] := by have h := hd _ (Array.mem_of_getElem? (i := 0) rfl) rfl; rw [hGs] at h; exact h
        have h20 : a.eval (.tmp 20) = .agg #[.bool bb, sb] := by have h := hd _ (Array.mem_of_getElem? (i := 1) rfl) rfl; rw [hGs] at h; exact h
        refine ⟨65, #[a.eval (.tmp 18), a.eval (.tmp 20)], Flow.run_enter (enters_of Tryz.func65 (by kernel_rfl) rfl) (by simp), ?_⟩
        rw [h18, h20]
        refine (mul_any _ _ _ _ W (HA.out.ext hI).num (HB.out.ext hI).num (by have h1 := HLA.out.1; have h2 := HLB.out.1; omega)).mono ?_
        rintro e w' ⟨v, rfl, hm, hE⟩
        exact ⟨v, rfl, by rw [hGs]; exact hm, hI.tr hE, hst.at hE⟩
      · refine Flow.step_val rfl fun a W hb hI hd => ?_
        have h2 : a.eval (.tmp 2) = .pointer (some ⟨w.heap.size, 0, none⟩) := hb.pre' 2 (by kernel_rfl)
        have g2 : a.tmps[2]?.getD undef = .pointer (some ⟨w.heap.size, 0, none⟩) := by have h := h2; simp only [Act.eval, Array.getD_eq_getD_getElem?] at h; exact h
        exact ⟨.pointer (some ⟨w.heap.size, 2, none⟩), by simp [go_sem, g2], by rw [hGs]; rfl⟩
      · refine Flow.step_val rfl fun a W hb hI hd => ?_
        have h22 : a.eval (.tmp 22) = .pointer (some ⟨w.heap.size, 2, none⟩) := by have h := hd _ (Array.mem_of_getElem? (i := 0) rfl) rfl; rw [hGs] at h; exact h
        exact ⟨_, run_load2 h22 (by have h := (B0.ext hI).cell 2; exact h) (by have h := (B0.ext hI).cell 3; exact h), by rw [hGs]; rfl⟩
      · refine Flow.step_val rfl fun a W hb hI hd => ?_
        have h3 : a.eval (.tmp 3) = .pointer (some ⟨(w.heap.size + 1), 0, none⟩) := hb.pre' 3 (by kernel_rfl)
        have g3 : a.tmps[3]?.getD undef = .pointer (some ⟨(w.heap.size + 1), 0, none⟩) := by have h := h3; simp only [Act.eval, Array.getD_eq_getD_getElem?] at h; exact h
        exact ⟨.pointer (some ⟨(w.heap.size + 1), 2, none⟩), by simp [go_sem, g3], by rw [hGs]; rfl⟩
      · refine Flow.step_val rfl fun a W hb hI hd => ?_
        have h24 : a.eval (.tmp 24) = .pointer (some ⟨(w.heap.size + 1), 2, none⟩) := by have h := hd _ (Array.mem_of_getElem? (i := 0) rfl) rfl; rw [hGs] at h; exact h
        exact ⟨_, run_load2 h24 (by have h := (B1.ext hI).cell 2; exact h) (by have h := (B1.ext hI).cell 3; exact h), by rw [hGs]; rfl⟩
      · refine Flow.step_call rfl fun a W hb hI hd => ?_
        have h23 : a.eval (.tmp 23) = .agg #[.bool false, ta] := by have h := hd _ (Array.mem_of_getElem? (i := 0) rfl) rfl; rw [hGs] at h; exact h
        have h25 : a.eval (.tmp 25) = .agg #[.bool false, tb] := by have h := hd _ (Array.mem_of_getElem? (i := 1) rfl) rfl; rw [hGs] at h; exact h
        refine ⟨65, #[a.eval (.tmp 23), a.eval (.tmp 25)], Flow.run_enter (enters_of Tryz.func65 (by kernel_rfl) rfl) (by simp), ?_⟩
        rw [h23, h25]
        refine (mul_any _ _ _ _ W (HA.out.ext hI).den (HB.out.ext hI).den (by have h1 := HLB.out.2; have h2 := HLA.out.2; rw [Int.natAbs_natCast, Int.natAbs_natCast]; omega)).mono ?_
        rintro e w' ⟨v, rfl, hm, hE⟩
        exact ⟨v, rfl, by rw [hGs]; exact hm, hI.tr hE, hst.at hE⟩
      · refine Flow.step_call rfl fun a W hb hI hd => ?_
        have h21 : (fun v W => IsInt W v (p.num * q.num)) (a.eval (.tmp 21)) W := by have h := hd _ (Array.mem_of_getElem? (i := 0) rfl) rfl; rw [hGs] at h; exact h
        have h26 : (fun v W => IsInt W v ((p.den : Int) * q.den)) (a.eval (.tmp 26)) W := by have h := hd _ (Array.mem_of_getElem? (i := 1) rfl) rfl; rw [hGs] at h; exact h
        refine ⟨119, #[a.eval (.tmp 21), a.eval (.tmp 26)], Flow.run_enter (enters_of Tryz.func119 (by kernel_rfl) rfl) (by simp), ?_⟩
        refine (ratio_any _ _ _ _ W h21 h26 (Int.ne_of_gt (Int.mul_pos (rat_den_pos p) (rat_den_pos q))) (Nat.le_trans (len_mul HLA.out.1 HLB.out.1) (by decide)) (Nat.le_trans (len_mul (by rw [Int.natAbs_natCast]; exact HLA.out.2) (by rw [Int.natAbs_natCast]; exact HLB.out.2)) (by decide))).mono ?_
        rw [mul_divInt]
        rintro e w' ⟨v, rfl, hm, hE⟩
        exact ⟨v, rfl, by rw [hGs]; exact hm, hI.tr hE, hst.at hE⟩
    case flowend =>
      rw [hGs]
      refine fun W hI v0 h0 v1 h1 v2 h2 v3 h3 v4 h4 v5 h5 v6 h6 v7 h7 v8 h8 v9 h9 v10 h10 => ?_
      obtain rfl : .pointer (some ⟨w.heap.size, 0, none⟩) = v0 := Eq.symm h0; clear h0
      obtain rfl : .agg #[.bool ba, sa] = v1 := Eq.symm h1; clear h1
      obtain rfl : .pointer (some ⟨(w.heap.size + 1), 0, none⟩) = v2 := Eq.symm h2; clear h2
      obtain rfl : .agg #[.bool bb, sb] = v3 := Eq.symm h3; clear h3
      replace h4 : (fun v W => IsInt W v (p.num * q.num)) v4 W := h4
      obtain rfl : .pointer (some ⟨w.heap.size, 2, none⟩) = v5 := Eq.symm h5; clear h5
      obtain rfl : .agg #[.bool false, ta] = v6 := Eq.symm h6; clear h6
      obtain rfl : .pointer (some ⟨(w.heap.size + 1), 2, none⟩) = v7 := Eq.symm h7; clear h7
      obtain rfl : .agg #[.bool false, tb] = v8 := Eq.symm h8; clear h8
      replace h9 : (fun v W => IsInt W v ((p.den : Int) * q.den)) v9 W := h9
      replace h10 : (fun v W => IsRat W v (p * q)) v10 W := h10
      clear hst hGs
      show wpList _ _ _ _ _ _
      simp only [List.drop_succ_cons, List.drop_zero, Act.put, List.setIfInBounds_toArray, List.set_cons_zero, List.set_cons_succ]
      obtain ⟨bq, s', t', rfl, st1, st2, HR⟩ := h10.unpack
      clear h10
      replace st1 := st_any st1
      replace st2 := st_any st2
      have C := B2.ext hI
      have c0 := C.cell 0
      have c1 := C.cell 1
      have c2 := C.cell 2
      have c3 := C.cell 3
      have f0 := C.frozen 0
      have f1 := C.frozen 1
      have f2 := C.frozen 2
      have f3 := C.frozen 3
      simp at c0 c1 c2 c3
      go_wp2
      exact end_rat rfl rfl rfl C (EE.tr hI) (by omega) HR.out fun v W' h hE => ⟨_, rfl, h, hE⟩
  · go_wp2_with fail
    refine (integer_any _ q w2 HB.out).mono ?_
    rintro e w3 ⟨rfl, E3⟩
    rw [HDB.out]
    clear a0 a1 a2 a3 b0 b1 b2 b3
    have B0 := B0.ext E3
    have B1 := B1.ext E3
    have B2 := B2.ext E3
    replace HA := hide (HA.out.ext E3)
    replace HB := hide (HB.out.ext E3)
    replace EE := EE.tr E3
    have a0 := B0.cell 0
    have a1 := B0.cell 1
    have a2 := B0.cell 2
    have a3 := B0.cell 3
    have b0 := B1.cell 0
    have b1 := B1.cell 1
    have b2 := B1.cell 2
    have b3 := B1.cell 3
    simp at a0 a1 a2 a3 b0 b1 b2 b3
    cases db
    · go_wp2_with fail
      clear a0 a1 a2 a3 b0 b1 b2 b3
      obtain ⟨Gs, hGs⟩ : ∃ Gs : List (Value → World → Prop), Gs = [(fun v _ => v = .pointer (some ⟨w.heap.size, 0, none⟩)), (fun v _ => v = .agg #[.bool ba, sa]), (fun v _ => v = .pointer (some ⟨(w.heap.size + 1), 0, none⟩)), (fun v _ => v = .agg #[.bool bb, sb]), (fun v W => IsInt W v (p.num * q.num)), (fun v _ => v = .pointer (some ⟨w.heap.size, 2, none⟩)), (fun v _ => v = .agg #[.bool false, ta]), (fun v _ => v = .pointer (some ⟨(w.heap.size + 1), 2, none⟩)), (fun v _ => v = .agg #[.bool false, tb]), (fun v W => IsInt W v ((p.den : Int) * q.den)), (fun v W => IsRat W v (p * q))] := ⟨_, rfl⟩
      have hst : Flow.Stay Ext Gs := by rw [hGs]; exact (Flow.Stay.cons (fun _ _ _ _ h => h) (Flow.Stay.cons (fun _ _ _ _ h => h) (Flow.Stay.cons (fun _ _ _ _ h => h) (Flow.Stay.cons (fun _ _ _ _ h => h) (Flow.Stay.cons (fun _ _ E _ h => IsInt.ext h E) (Flow.Stay.cons (fun _ _ _ _ h => h) (Flow.Stay.cons (fun _ _ _ _ h => h) (Flow.Stay.cons (fun _ _ _ _ h => h) (Flow.Stay.cons (fun _ _ _ _ h => h) (Flow.Stay.cons (fun _ _ E _ h => IsInt.ext h E) (Flow.Stay.cons (fun _ _ E _ h => IsRat.ext h E) Flow.Stay.nil)))))))))))
      refine Flow.wp_region_flow 11 (by kernel_rfl) (fun W => Ext w3 W) Gs (by kernel_rfl) (Ext.rfl' w3).drew ?flowsteps ?flowend
      case flowsteps =>
        refine ⟨?_, ?_, ?_, ?_, ?_, ?_, ?_, ?_, ?_, ?_, ?_, trivial⟩
        · refine Flow.step_val rfl fun a W hb hI hd => ?_
          have h2 : a.eval (.tmp 2) = .pointer (some ⟨w.heap.size, 0, none⟩) := hb.pre' 2 (by kernel_rfl)
          have g2 : a.tmps[2]?.getD undef = .pointer (some ⟨w.heap.size, 0, none⟩) := by have h := h2; simp only [Act.eval, Array.getD_eq_getD_getElem?] at h; exact h
          exact ⟨.pointer (some ⟨w.heap.size, 0, none⟩), by simp [go_sem, g2], by rw [hGs]; rfl⟩
        · refine Flow.step_val rfl fun a W hb hI hd => ?_
          have h17 : a.eval (.tmp 17) = .pointer (some ⟨w.heap.size, 0, none⟩) := by have h := hd _ (Array.mem_of_getElem? (i := 0) rfl) rfl; rw [hGs] at h; exact h
          exact ⟨_, run_load2 h17 (by have h := (B0.ext hI).cell 0; exact h) (by have h := (B0.ext hI).cell 1; exact h), by rw [hGs]; rfl⟩
        · refine Flow.step_val rfl fun a W hb hI hd => ?_
          have h3 : a.eval (.tmp 3) = .pointer (some ⟨(w.heap.size + 1), 0, none⟩) := hb.pre' 3 (by kernel_rfl)
          have g3 : a.tmps[3]?.getD undef = .pointer (some ⟨(w.heap.size + 1), 0, none⟩) := by have h := h3; simp only [Act.eval, Array.getD_eq_getD_getElem?] at h; exact h
          exact ⟨.pointer (some ⟨(w.heap.size + 1), 0, none⟩), by simp [go_sem, g3], by rw [hGs]; rfl⟩
        · refine Flow.step_val rfl fun a W hb hI hd => ?_
          have h19 : a.eval (.tmp 19) = .pointer (some ⟨(w.heap.size + 1), 0, none⟩) := by have h := hd _ (Array.mem_of_getElem? (i := 0) rfl) rfl; rw [hGs] at h; exact h
          exact ⟨_, run_load2 h19 (by have h := (B1.ext hI).cell 0; exact h) (by have h := (B1.ext hI).cell 1; exact h), by rw [hGs]; rfl⟩
        · refine Flow.step_call rfl fun a W hb hI hd => ?_
          have h18 : a.eval (.tmp 18) = .agg #[.bool ba, sa] := by have h := hd _ (Array.mem_of_getElem? (i := 0) rfl) rfl; rw [hGs] at h; exact h
          have h20 : a.eval (.tmp 20) = .agg #[.bool bb, sb] := by have h := hd _ (Array.mem_of_getElem? (i := 1) rfl) rfl; rw [hGs] at h; exact h
          refine ⟨65, #[a.eval (.tmp 18), a.eval (.tmp 20)], Flow.run_enter (enters_of Tryz.func65 (by kernel_rfl) rfl) (by simp), ?_⟩
          rw [h18, h20]
          refine (mul_any _ _ _ _ W (HA.out.ext hI).num (HB.out.ext hI).num (by have h1 := HLA.out.1; have h2 := HLB.out.1; omega)).mono ?_
          rintro e w' ⟨v, rfl, hm, hE⟩
          exact ⟨v, rfl, by rw [hGs]; exact hm, hI.tr hE, hst.at hE⟩
        · refine Flow.step_val rfl fun a W hb hI hd => ?_
          have h2 : a.eval (.tmp 2) = .pointer (some ⟨w.heap.size, 0, none⟩) := hb.pre' 2 (by kernel_rfl)
          have g2 : a.tmps[2]?.getD undef = .pointer (some ⟨w.heap.size, 0, none⟩) := by have h := h2; simp only [Act.eval, Array.getD_eq_getD_getElem?] at h; exact h
          exact ⟨.pointer (some ⟨w.heap.size, 2, none⟩), by simp [go_sem, g2], by rw [hGs]; rfl⟩
        · refine Flow.step_val rfl fun a W hb hI hd => ?_
          have h22 : a.eval (.tmp 22) = .pointer (some ⟨w.heap.size, 2, none⟩) := by have h := hd _ (Array.mem_of_getElem? (i := 0) rfl) rfl; rw [hGs] at h; exact h
          exact ⟨_, run_load2 h22 (by have h := (B0.ext hI).cell 2; exact h) (by have h := (B0.ext hI).cell 3; exact h), by rw [hGs]; rfl⟩
        · refine Flow.step_val rfl fun a W hb hI hd => ?_
          have h3 : a.eval (.tmp 3) = .pointer (some ⟨(w.heap.size + 1), 0, none⟩) := hb.pre' 3 (by kernel_rfl)
          have g3 : a.tmps[3]?.getD undef = .pointer (some ⟨(w.heap.size + 1), 0, none⟩) := by have h := h3; simp only [Act.eval, Array.getD_eq_getD_getElem?] at h; exact h
          exact ⟨.pointer (some ⟨(w.heap.size + 1), 2, none⟩), by simp [go_sem, g3], by rw [hGs]; rfl⟩
        · refine Flow.step_val rfl fun a W hb hI hd => ?_
          have h24 : a.eval (.tmp 24) = .pointer (some ⟨(w.heap.size + 1), 2, none⟩) := by have h := hd _ (Array.mem_of_getElem? (i := 0) rfl) rfl; rw [hGs] at h; exact h
          exact ⟨_, run_load2 h24 (by have h := (B1.ext hI).cell 2; exact h) (by have h := (B1.ext hI).cell 3; exact h), by rw [hGs]; rfl⟩
        · refine Flow.step_call rfl fun a W hb hI hd => ?_
          have h23 : a.eval (.tmp 23) = .agg #[.bool false, ta] := by have h := hd _ (Array.mem_of_getElem? (i := 0) rfl) rfl; rw [hGs] at h; exact h
          have h25 : a.eval (.tmp 25) = .agg #[.bool false, tb] := by have h := hd _ (Array.mem_of_getElem? (i := 1) rfl) rfl; rw [hGs] at h; exact h
          refine ⟨65, #[a.eval (.tmp 23), a.eval (.tmp 25)], Flow.run_enter (enters_of Tryz.func65 (by kernel_rfl) rfl) (by simp), ?_⟩
          rw [h23, h25]
          refine (mul_any _ _ _ _ W (HA.out.ext hI).den (HB.out.ext hI).den (by have h1 := HLB.out.2; have h2 := HLA.out.2; rw [Int.natAbs_natCast, Int.natAbs_natCast]; omega)).mono ?_
          rintro e w' ⟨v, rfl, hm, hE⟩
          exact ⟨v, rfl, by rw [hGs]; exact hm, hI.tr hE, hst.at hE⟩
        · refine Flow.step_call rfl fun a W hb hI hd => ?_
          have h21 : (fun v W => IsInt W v (p.num * q.num)) (a.eval (.tmp 21)) W := by have h := hd _ (Array.mem_of_getElem? (i := 0) rfl) rfl; rw [hGs] at h; exact h
          have h26 : (fun v W => IsInt W v ((p.den : Int) * q.den)) (a.eval (.tmp 26)) W := by have h := hd _ (Array.mem_of_getElem? (i := 1) rfl) rfl; rw [hGs] at h; exact h
          refine ⟨119, #[a.eval (.tmp 21), a.eval (.tmp 26)], Flow.run_enter (enters_of Tryz.func119 (by kernel_rfl) rfl) (by simp), ?_⟩
          refine (ratio_any _ _ _ _ W h21 h26 (Int.ne_of_gt (Int.mul_pos (rat_den_pos p) (rat_den_pos q))) (Nat.le_trans (len_mul HLA.out.1 HLB.out.1) (by decide)) (Nat.le_trans (len_mul (by rw [Int.natAbs_natCast]; exact HLA.out.2) (by rw [Int.natAbs_natCast]; exact HLB.out.2)) (by decide))).mono ?_
          rw [mul_divInt]
          rintro e w' ⟨v, rfl, hm, hE⟩
          exact ⟨v, rfl, by rw [hGs]; exact hm, hI.tr hE, hst.at hE⟩
      case flowend =>
        rw [hGs]
        refine fun W hI v0 h0 v1 h1 v2 h2 v3 h3 v4 h4 v5 h5 v6 h6 v7 h7 v8 h8 v9 h9 v10 h10 => ?_
        obtain rfl : .pointer (some ⟨w.heap.size, 0, none⟩) = v0 := Eq.symm h0; clear h0
        obtain rfl : .agg #[.bool ba, sa] = v1 := Eq.symm h1; clear h1
        obtain rfl : .pointer (some ⟨(w.heap.size + 1), 0, none⟩) = v2 := Eq.symm h2; clear h2
        obtain rfl : .agg #[.bool bb, sb] = v3 := Eq.symm h3; clear h3
        replace h4 : (fun v W => IsInt W v (p.num * q.num)) v4 W := h4
        obtain rfl : .pointer (some ⟨w.heap.size, 2, none⟩) = v5 := Eq.symm h5; clear h5
        obtain rfl : .agg #[.bool false, ta] = v6 := Eq.symm h6; clear h6
        obtain rfl : .pointer (some ⟨(w.heap.size + 1), 2, none⟩) = v7 := Eq.symm h7; clear h7
        obtain rfl : .agg #[.bool false, tb] = v8 := Eq.symm h8; clear h8
        replace h9 : (fun v W => IsInt W v ((p.den : Int) * q.den)) v9 W := h9
        replace h10 : (fun v W => IsRat W v (p * q)) v10 W := h10
        clear hst hGs
        show wpList _ _ _ _ _ _
        simp only [List.drop_succ_cons, List.drop_zero, Act.put, List.setIfInBounds_toArray, List.set_cons_zero, List.set_cons_succ]
        obtain ⟨bq, s', t', rfl, st1, st2, HR⟩ := h10.unpack
        clear h10
        replace st1 := st_any st1
        replace st2 := st_any st2
        have C := B2.ext hI
        have c0 := C.cell 0
        have c1 := C.cell 1
        have c2 := C.cell 2
        have c3 := C.cell 3
        have f0 := C.frozen 0
        have f1 := C.frozen 1
        have f2 := C.frozen 2
        have f3 := C.frozen 3
        simp at c0 c1 c2 c3
        go_wp2
        exact end_rat rfl rfl rfl C (EE.tr hI) (by omega) HR.out fun v W' h hE => ⟨_, rfl, h, hE⟩
    · go_wp2_with fail
      refine (mul_any _ _ _ _ w3 HA.out.num HB.out.num (by have h1 := HLA.out.1; have h2 := HLB.out.1; omega)).mono ?_
      rintro e w4 ⟨u, rfl, hu, E4⟩
      have HU := hide hu
      clear hu
      clear a0 a1 a2 a3 b0 b1 b2 b3
      go_wp2_with fail
      refine (fromInt_any _ _ w4 HU.out).mono ?_
      rintro e w5 ⟨u', rfl, hu, E5⟩
      rw [show ((p.num * q.num : Int) : Rat) = p * q by have h1 := HDA.out; have h2 := HDB.out; simp only [decide_eq_true_eq] at h1 h2; rw [Rat.intCast_mul, rat_int h1, rat_int h2]] at hu
      have EF := (EE.tr E4).tr E5
      obtain ⟨bq, s', t', rfl, st1, st2, HR⟩ := hu.unpack
      clear hu
      replace st1 := st_any st1
      replace st2 := st_any st2
      have C := (B2.ext E4).ext E5
      have c0 := C.cell 0
      have c1 := C.cell 1
      have c2 := C.cell 2
      have c3 := C.cell 3
      have f0 := C.frozen 0
      have f1 := C.frozen 1
      have f2 := C.frozen 2
      have f3 := C.frozen 3
      simp at c0 c1 c2 c3
      go_wp2
      exact end_rat rfl rfl rfl C (EF) (by omega) HR.out fun v W' h hE => ⟨_, rfl, h, hE⟩

set_option maxRecDepth 100000 in
set_option maxHeartbeats 4000000 in
theorem div_rat (va vb : Value) (p q : Rat) (w : World) (ha : IsRat w va p) (hb : IsRat w vb q) (hb0 : q ≠ 0) (hla : RatLen p 4398046511104) (hlb : RatLen q 4398046511104) :
    Calls Tryz.prog 69 #[va, vb] w fun e w' => ∃ u, e = .returned u ∧ IsRat w' u (p / q) ∧ Ext w w' := by
  obtain ⟨ba, sa, ta, rfl, oa1, oa2, HA0⟩ := ha.unpack
  obtain ⟨bb, sb, tb, rfl, ob1, ob2, HB0⟩ := hb.unpack
  clear ha hb oa1 oa2 ob1 ob2
  have HLA := hide hla
  have HLB := hide hlb
  clear hla hlb
  go_enter Tryz.func69, Tryz.ntmps69
  go_wp2_with fail
  generalize hw1 : (((w.alloc _).alloc _).alloc _) = w1
  have B0 : Blk w1 (w.heap.size) 113 #[.bool ba, sa, .bool false, ta] := by rw [← hw1]; exact (((Blk.new' _ _ _ _ (by simp)).alloc _).alloc _)
  have B1 : Blk w1 (w.heap.size + 1) 113 #[.bool bb, sb, .bool false, tb] := by rw [← hw1]; exact ((Blk.new' _ _ _ _ (by simp)).alloc _)
  have B2 : Blk w1 (w.heap.size + 2) 113 #[.bool false, .slice none 0 0, .bool false, .slice none 0 0] := by rw [← hw1]; exact (Blk.new' _ _ _ _ (by simp))
  have E1 : Ext w w1 := by rw [← hw1]; exact ((((Below.refl _ _).alloc (Nat.le_refl _) _).alloc (by simp <;> omega) _).alloc (by simp <;> omega) _)
  clear hw1
  have HA := hide (HA0.out.ext E1)
  have HB := hide (HB0.out.ext E1)
  clear HA0 HB0
  obtain ⟨Gs, hGs⟩ : ∃ Gs : List (Value → World → Prop), Gs = [(fun v _ => v = .pointer (some ⟨w.heap.size, 0, none⟩)), (fun v _ => v = .agg #[.bool ba, sa]), (fun v _ => v = .pointer (some ⟨(w.heap.size + 1), 2, none⟩)), (fun v _ => v = .agg #[.bool false, tb]), (fun v W => IsInt W v (p.num * q.den)), (fun v _ => v = .pointer (some ⟨w.heap.size, 2, none⟩)), (fun v _ => v = .agg #[.bool false, ta]), (fun v _ => v = .pointer (some ⟨(w.heap.size + 1), 0, none⟩)), (fun v _ => v = .agg #[.bool bb, sb]), (fun v W => IsInt W v ((p.den : Int) * q.num)), (fun v W => IsRat W v (p / q))] := ⟨_, rfl⟩
  have hst : Flow.Stay Ext Gs := by rw [hGs]; exact (Flow.Stay.cons (fun _ _ _ _ h => h) (Flow.Stay.cons (fun _ _ _ _ h => h) (Flow.Stay.cons (fun _ _ _ _ h => h) (Flow.Stay.cons (fun _ _ _ _ h => h) (Flow.Stay.cons (fun _ _ E _ h => IsInt.ext h E) (Flow.Stay.cons (fun _ _ _ _ h => h) (Flow.Stay.cons (fun _ _ _ _ h => h) (Flow.Stay.cons (fun _ _ _ _ h => h) (Flow.Stay.cons (fun _ _ _ _ h => h) (Flow.Stay.cons (fun _ _ E _ h => IsInt.ext h E) (Flow.Stay.cons (fun _ _ E _ h => IsRat.ext h E) Flow.Stay.nil)))))))))))
  refine Flow.wp_region_flow 11 (by kernel_rfl) (fun W => Ext w1 W) Gs (by kernel_rfl) (Ext.rfl' w1).drew ?flowsteps ?flowend
  case flowsteps =>
    refine ⟨?_, ?_, ?_, ?_, ?_, ?_, ?_, ?_, ?_, ?_, ?_, trivial⟩
    · refine Flow.step_val rfl fun a W hb hI hd => ?_
      have h2 : a.eval (.tmp 2) = .pointer (some ⟨w.heap.size, 0, none⟩) := hb.pre' 2 (by kernel_rfl)
      have g2 : a.tmps[2]?.getD undef = .pointer (some ⟨w.heap.size, 0, none⟩) := by have h := h2; simp only [Act.eval, Array.getD_eq_getD_getElem?] at h; exact h
      exact ⟨.pointer (some ⟨w.heap.size, 0, none⟩), by simp [go_sem, g2], by rw [hGs]; rfl⟩
    · refine Flow.step_val rfl fun a W hb hI hd => ?_
      have h5 : a.eval (.tmp 5) = .pointer (some ⟨w.heap.size, 0, none⟩) := by have h := hd _ (Array.mem_of_getElem? (i := 0) rfl) rfl; rw [hGs] at h; exact h
      exact ⟨_, run_load2 h5 (by have h := (B0.ext hI).cell 0; exact h) (by have h := (B0.ext hI).cell 1; exact h), by rw [hGs]; rfl⟩
    · refine Flow.step_val rfl fun a W hb hI hd => ?_
      have h3 : a.eval (.tmp 3) = .pointer (some ⟨(w.heap.size + 1), 0, none⟩) := hb.pre' 3 (by kernel_rfl)
      have g3 : a.tmps[3]?.getD undef = .pointer (some ⟨(w.heap.size + 1), 0, none⟩) := by have h := h3; simp only [Act.eval, Array.getD_eq_getD_getElem?] at h; exact h
      exact ⟨.pointer (some ⟨(w.heap.size + 1), 2, none⟩), by simp [go_sem, g3], by rw [hGs]; rfl⟩
    · refine Flow.step_val rfl fun a W hb hI hd => ?_
      have h7 : a.eval (.tmp 7) = .pointer (some ⟨(w.heap.size + 1), 2, none⟩) := by have h := hd _ (Array.mem_of_getElem? (i := 0) rfl) rfl; rw [hGs] at h; exact h
      exact ⟨_, run_load2 h7 (by have h := (B1.ext hI).cell 2; exact h) (by have h := (B1.ext hI).cell 3; exact h), by rw [hGs]; rfl⟩
    · refine Flow.step_call rfl fun a W hb hI hd => ?_
      have h6 : a.eval (.tmp 6) = .agg #[.bool ba, sa] := by have h := hd _ (Array.mem_of_getElem? (i := 0) rfl) rfl; rw [hGs] at h; exact h
      have h8 : a.eval (.tmp 8) = .agg #[.bool false, tb] := by have h := hd _ (Array.mem_of_getElem? (i := 1) rfl) rfl; rw [hGs] at h; exact h
      refine ⟨65, #[a.eval (.tmp 6), a.eval (.tmp 8)], Flow.run_enter (enters_of Tryz.func65 (by kernel_rfl) rfl) (by simp), ?_⟩
      rw [h6, h8]
      refine (mul_any _ _ _ _ W (HA.out.ext hI).num (HB.out.ext hI).den (by have h1 := HLA.out.1; have h2 := HLB.out.2; rw [Int.natAbs_natCast]; omega)).mono ?_
      rintro e w' ⟨v, rfl, hm, hE⟩
      exact ⟨v, rfl, by rw [hGs]; exact hm, hI.tr hE, hst.at hE⟩
    · refine Flow.step_val rfl fun a W hb hI hd => ?_
      have h2 : a.eval (.tmp 2) = .pointer (some ⟨w.heap.size, 0, none⟩) := hb.pre' 2 (by kernel_rfl)
      have g2 : a.tmps[2]?.getD undef = .pointer (some ⟨w.heap.size, 0, none⟩) := by have h := h2; simp only [Act.eval, Array.getD_eq_getD_getElem?] at h; exact h
      exact ⟨.pointer (some ⟨w.heap.size, 2, none⟩), by simp [go_sem, g2], by rw [hGs]; rfl⟩
    · refine Flow.step_val rfl fun a W hb hI hd => ?_
      have h10 : a.eval (.tmp 10) = .pointer (some ⟨w.heap.size, 2, none⟩) := by have h := hd _ (Array.mem_of_getElem? (i := 0) rfl) rfl; rw [hGs] at h; exact h
      exact ⟨_, run_load2 h10 (by have h := (B0.ext hI).cell 2; exact h) (by have h := (B0.ext hI).cell 3; exact h), by rw [hGs]; rfl⟩
    · refine Flow.step_val rfl fun a W hb hI hd => ?_
      have h3 : a.eval (.tmp 3) = .pointer (some ⟨(w.heap.size + 1), 0, none⟩) := hb.pre' 3 (by kernel_rfl)
      have g3 : a.tmps[3]?.getD undef = .pointer (some ⟨(w.heap.size + 1), 0, none⟩) := by have h := h3; simp only [Act.eval, Array.getD_eq_getD_getElem?] at h; exact h
      exact ⟨.pointer (some ⟨(w.heap.size + 1), 0, none⟩), by simp [go_sem, g3], by rw [hGs]; rfl⟩
    · refine Flow.step_val rfl fun a W hb hI hd => ?_
      have h12 : a.eval (.tmp 12) = .pointer (some ⟨(w.heap.size + 1), 0, none⟩) := by have h := hd _ (Array.mem_of_getElem? (i := 0) rfl) rfl; rw [hGs] at h; exact h
      exact ⟨_, run_load2 h12 (by have h := (B1.ext hI).cell 0; exact h) (by have h := (B1.ext hI).cell 1; exact h), by rw [hGs]; rfl⟩
    · refine Flow.step_call rfl fun a W hb hI hd => ?_
      have h11 : a.eval (.tmp 11) = .agg #[.bool false, ta] := by have h := hd _ (Array.mem_of_getElem? (i := 0) rfl) rfl; rw [hGs] at h; exact h
      have h13 : a.eval (.tmp 13) = .agg #[.bool bb, sb] := by have h := hd _ (Array.mem_of_getElem? (i := 1) rfl) rfl; rw [hGs] at h; exact h
      refine ⟨65, #[a.eval (.tmp 11), a.eval (.tmp 13)], Flow.run_enter (enters_of Tryz.func65 (by kernel_rfl) rfl) (by simp), ?_⟩
      rw [h11, h13]
      refine (mul_any _ _ _ _ W (HA.out.ext hI).den (HB.out.ext hI).num (by have h1 := HLB.out.1; have h2 := HLA.out.2; rw [Int.natAbs_natCast]; omega)).mono ?_
      rintro e w' ⟨v, rfl, hm, hE⟩
      exact ⟨v, rfl, by rw [hGs]; exact hm, hI.tr hE, hst.at hE⟩
    · refine Flow.step_call rfl fun a W hb hI hd => ?_
      have h9 : (fun v W => IsInt W v (p.num * q.den)) (a.eval (.tmp 9)) W := by have h := hd _ (Array.mem_of_getElem? (i := 0) rfl) rfl; rw [hGs] at h; exact h
      have h14 : (fun v W => IsInt W v ((p.den : Int) * q.num)) (a.eval (.tmp 14)) W := by have h := hd _ (Array.mem_of_getElem? (i := 1) rfl) rfl; rw [hGs] at h; exact h
      refine ⟨119, #[a.eval (.tmp 9), a.eval (.tmp 14)], Flow.run_enter (enters_of Tryz.func119 (by kernel_rfl) rfl) (by simp), ?_⟩
      refine (ratio_any _ _ _ _ W h9 h14 (Int.mul_ne_zero (Int.ne_of_gt (rat_den_pos p)) (fun e => hb0 (Rat.num_eq_zero.1 e))) (Nat.le_trans (len_mul HLA.out.1 (by rw [Int.natAbs_natCast]; exact HLB.out.2)) (by decide)) (Nat.le_trans (len_mul (by rw [Int.natAbs_natCast]; exact HLA.out.2) HLB.out.1) (by decide))).mono ?_
      rw [div_divInt]
      rintro e w' ⟨v, rfl, hm, hE⟩
      exact ⟨v, rfl, by rw [hGs]; exact hm, hI.tr hE, hst.at hE⟩
  case flowend =>
    rw [hGs]
    refine fun W hI v0 h0 v1 h1 v2 h2 v3 h3 v4 h4 v5 h5 v6 h6 v7 h7 v8 h8 v9 h9 v10 h10 => ?_
    obtain rfl : .pointer (some ⟨w.heap.size, 0, none⟩) = v0 := Eq.symm h0; clear h0
    obtain rfl : .agg #[.bool ba, sa] = v1 := Eq.symm h1; clear h1
    obtain rfl : .pointer (some ⟨(w.heap.size + 1), 2, none⟩) = v2 := Eq.symm h2; clear h2
    obtain rfl : .agg #[.bool false, tb] = v3 := Eq.symm h3; clear h3
    replace h4 : (fun v W => IsInt W v (p.num * q.den)) v4 W := h4
    obtain rfl : .pointer (some ⟨w.heap.size, 2, none⟩) = v5 := Eq.symm h5; clear h5
    obtain rfl : .agg #[.bool false, ta] = v6 := Eq.symm h6; clear h6
    obtain rfl : .pointer (some ⟨(w.heap.size + 1), 0, none⟩) = v7 := Eq.symm h7; clear h7
    obtain rfl : .agg #[.bool bb, sb] = v8 := Eq.symm h8; clear h8
    replace h9 : (fun v W => IsInt W v ((p.den : Int) * q.num)) v9 W := h9
    replace h10 : (fun v W => IsRat W v (p / q)) v10 W := h10
    clear hst hGs
    show wpList _ _ _ _ _ _
    simp only [List.drop_succ_cons, List.drop_zero, Act.put, List.setIfInBounds_toArray, List.set_cons_zero, List.set_cons_succ]
    obtain ⟨bq, s', t', rfl, st1, st2, HR⟩ := h10.unpack
    clear h10
    replace st1 := st_any st1
    replace st2 := st_any st2
    have C := B2.ext hI
    have c0 := C.cell 0
    have c1 := C.cell 1
    have c2 := C.cell 2
    have c3 := C.cell 3
    have f0 := C.frozen 0
    have f1 := C.frozen 1
    have f2 := C.frozen 2
    have f3 := C.frozen 3
    simp at c0 c1 c2 c3
    go_wp2
    exact end_rat rfl rfl rfl C (E1.tr hI) (by omega) HR.out fun v W' h hE => ⟨_, rfl, h, hE⟩

set_option maxRecDepth 100000 in
set_option maxHeartbeats 4000000 in
theorem sub_rat (va vb : Value) (p q : Rat) (w : World) (ha : IsRat w va p) (hb : IsRat w vb q) (hla : RatLen p 4398046511104) (hlb : RatLen q 4398046511104) :
    Calls Tryz.prog 61 #[va, vb] w fun e w' => ∃ u, e = .returned u ∧ IsRat w' u (p - q) ∧ Ext w w' := by
  obtain ⟨ba, sa, ta, rfl, oa1, oa2, HA0⟩ := ha.unpack
  obtain ⟨bb, sb, tb, rfl, ob1, ob2, HB0⟩ := hb.unpack
  clear ha hb oa1 oa2 ob1 ob2
  have HLA := hide hla
  have HLB := hide (show RatLen (-q) 4398046511104 from ⟨by rw [Rat.neg_num, Int.natAbs_neg]; exact hlb.1, by rw [Rat.neg_den]; exact hlb.2⟩)
  clear hla hlb
  go_enter Tryz.func61, Tryz.ntmps61
  go_wp2_with fail
  generalize hw1 : (((w.alloc _).alloc _).alloc _) = w1
  have B0 : Blk w1 (w.heap.size) 113 #[.bool ba, sa, .bool false, ta] := by rw [← hw1]; exact (((Blk.new' _ _ _ _ (by simp)).alloc _).alloc _)
  have B1 : Blk w1 (w.heap.size + 1) 113 #[.bool bb, sb, .bool false, tb] := by rw [← hw1]; exact ((Blk.new' _ _ _ _ (by simp)).alloc _)
  have B2 : Blk w1 (w.heap.size + 2) 113 #[.bool false, .slice none 0 0, .bool false, .slice none 0 0] := by rw [← hw1]; exact (Blk.new' _ _ _ _ (by simp))
  have E1 : Ext w w1 := by rw [← hw1]; exact ((((Below.refl _ _).alloc (Nat.le_refl _) _).alloc (by simp <;> omega) _).alloc (by simp <;> omega) _)
  clear hw1
  have HA := hide (HA0.out.ext E1)
  have HB := hide (HB0.out.ext E1)
  clear HA0 HB0
  obtain ⟨Gs, hGs⟩ : ∃ Gs : List (Value → World → Prop), Gs = [(fun v _ => v = .agg #[.bool ba, sa, .bool false, ta]), (fun v _ => v = .agg #[.bool bb, sb, .bool false, tb]), (fun v W => IsRat W v (-q)), (fun v W => IsRat W v (p - q))] := ⟨_, rfl⟩
  have hst : Flow.Stay Ext Gs := by rw [hGs]; exact (Flow.Stay.cons (fun _ _ _ _ h => h) (Flow.Stay.cons (fun _ _ _ _ h => h) (Flow.Stay.cons (fun _ _ E _ h => IsRat.ext h E) (Flow.Stay.cons (fun _ _ E _ h => IsRat.ext h E) Flow.Stay.nil))))
  refine Flow.wp_region_flow 4 (by kernel_rfl) (fun W => Ext w1 W) Gs (by kernel_rfl) (Ext.rfl' w1).drew ?flowsteps ?flowend
  case flowsteps =>
    refine ⟨?_, ?_, ?_, ?_, trivial⟩
    · refine Flow.step_val rfl fun a W hb hI hd => ?_
      have h2 : a.eval (.tmp 2) = .pointer (some ⟨w.heap.size, 0, none⟩) := hb.pre' 2 (by kernel_rfl)
      exact ⟨_, run_load4 h2 (by have h := (B0.ext hI).cell 0; exact h) (by have h := (B0.ext hI).cell 1; exact h) (by have h := (B0.ext hI).cell 2; exact h) (by have h := (B0.ext hI).cell 3; exact h), by rw [hGs]; rfl⟩
    · refine Flow.step_val rfl fun a W hb hI hd => ?_
      have h3 : a.eval (.tmp 3) = .pointer (some ⟨(w.heap.size + 1), 0, none⟩) := hb.pre' 3 (by kernel_rfl)
      exact ⟨_, run_load4 h3 (by have h := (B1.ext hI).cell 0; exact h) (by have h := (B1.ext hI).cell 1; exact h) (by have h := (B1.ext hI).cell 2; exact h) (by have h := (B1.ext hI).cell 3; exact h), by rw [hGs]; rfl⟩
    · refine Flow.step_call rfl fun a W hb hI hd => ?_
      have h6 : a.eval (.tmp 6) = .agg #[.bool bb, sb, .bool false, tb] := by have h := hd _ (Array.mem_of_getElem? (i := 0) rfl) rfl; rw [hGs] at h; exact h
      refine ⟨113, #[a.eval (.tmp 6)], Flow.run_enter (enters_of Tryz.func113 (by kernel_rfl) rfl) (by simp), ?_⟩
      rw [h6]
      refine (neg_rat _ _ W (HB.out.ext hI)).mono ?_
      rintro e w' ⟨v, rfl, hm, hE⟩
      exact ⟨v, rfl, by rw [hGs]; exact hm, hI.tr hE, hst.at hE⟩
    · refine Flow.step_call rfl fun a W hb hI hd => ?_
      have h5 : a.eval (.tmp 5) = .agg #[.bool ba, sa, .bool false, ta] := by have h := hd _ (Array.mem_of_getElem? (i := 0) rfl) rfl; rw [hGs] at h; exact h
      have h7 : (fun v W => IsRat W v (-q)) (a.eval (.tmp 7)) W := by have h := hd _ (Array.mem_of_getElem? (i := 1) rfl) rfl; rw [hGs] at h; exact h
      refine ⟨112, #[a.eval (.tmp 5), a.eval (.tmp 7)], Flow.run_enter (enters_of Tryz.func112 (by kernel_rfl) rfl) (by simp), ?_⟩
      rw [h5]
      refine (add_rat _ _ _ _ W (HA.out.ext hI) h7 HLA.out HLB.out).mono ?_
      rw [← Rat.sub_eq_add_neg]
      rintro e w' ⟨v, rfl, hm, hE⟩
      exact ⟨v, rfl, by rw [hGs]; exact hm, hI.tr hE, hst.at hE⟩
  case flowend =>
    rw [hGs]
    refine fun W hI v0 h0 v1 h1 v2 h2 v3 h3 => ?_
    obtain rfl : .agg #[.bool ba, sa, .bool false, ta] = v0 := Eq.symm h0; clear h0
    obtain rfl : .agg #[.bool bb, sb, .bool false, tb] = v1 := Eq.symm h1; clear h1
    replace h2 : (fun v W => IsRat W v (-q)) v2 W := h2
    replace h3 : (fun v W => IsRat W v (p - q)) v3 W := h3
    clear hst hGs
    show wpList _ _ _ _ _ _
    simp only [List.drop_succ_cons, List.drop_zero, Act.put, List.setIfInBounds_toArray, List.set_cons_zero, List.set_cons_succ]
    obtain ⟨bq, s', t', rfl, st1, st2, HR⟩ := h3.unpack
    clear h3
    replace st1 := st_any st1
    replace st2 := st_any st2
    have C := B2.ext hI
    have c0 := C.cell 0
    have c1 := C.cell 1
    have c2 := C.cell 2
    have c3 := C.cell 3
    have f0 := C.frozen 0
    have f1 := C.frozen 1
    have f2 := C.frozen 2
    have f3 := C.frozen 3
    simp at c0 c1 c2 c3
    go_wp2
    exact end_rat rfl rfl rfl C (E1.tr hI) (by omega) HR.out fun v W' h hE => ⟨_, rfl, h, hE⟩

end Go.Proofs.YtncabodphjkkfaaGreat
