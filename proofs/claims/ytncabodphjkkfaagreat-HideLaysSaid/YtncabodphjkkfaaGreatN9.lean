/- The integers of package num: sign, sum, difference, product, comparison. Conditions: none. -/
import Derived.Test.YtncabodphjkkfaaGreatN8
namespace Go.Proofs.YtncabodphjkkfaaGreat
open Go.RowKit Go.Limbs Go.Shelf

/-- The end of a function whose result is an integer that lies in a block of its own. -/
theorem end_int {fn : Func} {d : Tmp} {a : Act} {w W : World} {g : Nat} {x y : Value} {R : Ending → World → Prop} {s : Value} {n : Nat} {b : Bool} (hr : fn.results = #[.cell d 110])
    (ht : a.tmps.getD d undef = .pointer (some ⟨g, 0, none⟩)) (hd : a.defers = []) (hB : Blk W g 110 #[x, y]) (hE : Ext w W) (hg : w.heap.size ≤ g) (hm : Mag W s n)
    (hR : ∀ W', Mag W' s n → Ext w W' → R (.returned (.agg #[.bool b, s])) W') :
    bodyPost Tryz.prog fn R .ret a ((W.setCell ⟨g, 0, none⟩ (.bool b)).setCell ⟨g, 1, none⟩ s) := by
  have B3 : Blk ((W.setCell ⟨g, 0, none⟩ (.bool b)).setCell ⟨g, 1, none⟩ s) g 110 #[.bool b, s] := (hB.set_ 0 (.bool b)).set_ 1 s
  refine bodyPost_ret (res2_run hr ht B3) hd (hR _ ?_ ?_)
  · exact (hm.store (p := ⟨g, 0, none⟩) hB.ty (by decide) _).store (p := ⟨g, 1, none⟩) (hB.ty.setCell _ _) (by decide) _
  · exact (hE.setCell (p := ⟨g, 0, none⟩) hg _).setCell (p := ⟨g, 1, none⟩) hg _

theorem run_neq_bool {W : World} {b c : Bool} {ρ : Operand → Value} {x y : Operand} {dst : Option Tmp} {ty : TypeId} {pos : String} {after : Array Edge} {guard : Option (Nat × Bool)}
    (hx : ρ x = .bool b) (hy : ρ y = .bool c) : (execOp ρ { dst, op := .binOp .neq 4 x y 4, type := ty, pos, after, guard }).run Tryz.prog W = .ok (.value (.bool (b != c))) W := by
  cases b <;> cases c <;> simp [go_sem, execOp, hx, hy]
theorem add_sign1 {i j : Int} (h : decide (i < 0) = decide (j < 0)) : decide (i + j < 0) = (decide (i < 0) && decide (i.natAbs + j.natAbs ≠ 0)) := by
  have h' : i < 0 ↔ j < 0 := by simpa using h
  rw [← Bool.decide_and]
  exact decide_eq_decide.2 (by omega)
theorem add_sign2 {i j : Int} (h : ¬ decide (i < 0) = decide (j < 0)) (hle : j.natAbs ≤ i.natAbs) : decide (i + j < 0) = (decide (i < 0) && decide (i.natAbs - j.natAbs ≠ 0)) := by
  have h' : ¬ (i < 0 ↔ j < 0) := by simpa using h
  rw [← Bool.decide_and]
  exact decide_eq_decide.2 (by omega)
theorem add_sign3 {i j : Int} (h : ¬ decide (i < 0) = decide (j < 0)) (hle : i.natAbs < j.natAbs) : decide (i + j < 0) = (decide (j < 0) && decide (j.natAbs - i.natAbs ≠ 0)) := by
  have h' : ¬ (i < 0 ↔ j < 0) := by simpa using h
  rw [← Bool.decide_and]
  exact decide_eq_decide.2 (by omega)

theorem sign_of (i : Int) : (decide (i < 0) && decide (0 < (limbs i.natAbs).length)) = decide (i < 0) := by
  rw [decide_pos_limbs]
  by_cases h : i < 0
  · simp [h]; omega
  · simp [h]

set_option maxHeartbeats 400000 in
theorem neg_any (v : Value) (i : Int) (w : World) (h : IsInt w v i) : Calls Tryz.prog 135 #[v] w fun e w' => ∃ u, e = .returned u ∧ IsInt w' u (-i) ∧ Ext w w' := by
  obtain ⟨s, rfl, hs⟩ := h
  go_enter Tryz.func135, Tryz.ntmps135
  go_wp2_with fail
  generalize hw1 : ((w.alloc _).alloc _) = w1
  have B0 : Blk w1 (w.heap.size) 110 #[.bool (decide (i < 0)), s] := by rw [← hw1]; exact ((Blk.new' _ _ _ _ (by simp)).alloc _)
  have B1 : Blk w1 (w.heap.size + 1) 110 #[.bool false, .slice none 0 0] := by rw [← hw1]; exact (Blk.new' _ _ _ _ (by simp))
  have E1 : Ext w w1 := by rw [← hw1]; exact (((Below.refl _ _).alloc (Nat.le_refl _) _).alloc (by simp <;> omega) _)
  clear hw1
  have hc := made_any (!decide (i < 0)) s _ w1 (hs.ext E1)
  rw [decide_pos_limbs] at hc
  have HC := hide hc
  clear hc
  refine (HC.out).mono ?_
  rintro e w2 ⟨rfl, E2⟩
  have C := B1.ext E2
  have c0 := C.cell 0
  have c1 := C.cell 1
  have f0 := C.frozen 0
  have f1 := C.frozen 1
  simp at c0 c1
  have st := st_any hs.one
  go_wp2
  refine end_int rfl rfl rfl C (E1.tr E2) (by omega) ((hs.ext E1).ext E2) fun W' hm hE => ⟨_, rfl, ⟨s, ?_, by rw [Int.natAbs_neg]; exact hm⟩, hE⟩
  congr 3
  by_cases h1 : i < 0
  · simp [h1]; omega
  · by_cases h2 : i = 0
    · subst h2; simp
    · simp [h1, h2]; omega

set_option maxHeartbeats 400000 in
theorem sign_any (v : Value) (i : Int) (w : World) (h : IsInt w v i) : Calls Tryz.prog 177 #[v] w fun e w' => e = .returned (.int .i64 i.sign) ∧ Ext w w' := by
  obtain ⟨s, rfl, hs⟩ := h
  obtain ⟨A, ca, rfl, hca, hma, hla, hra⟩ := hs
  have E1 : Ext w (w.alloc (.cells #[.bool (decide (i < 0)), .slice A (limbs i.natAbs).length ca] 110)) := (Below.refl _ _).alloc (Nat.le_refl _) _
  obtain ⟨L, hL⟩ : ∃ L, (limbs i.natAbs).length = L := ⟨_, rfl⟩
  obtain ⟨b, hb⟩ : ∃ b, decide (i < 0) = b := ⟨_, rfl⟩
  rw [hL, hb] at E1 ⊢
  have hLi : L = 0 ↔ i = 0 := by
    rw [← hL, List.length_eq_zero_iff, limbs_eq_nil]; omega
  have HL := hide hL; have HB := hide hb; have HLI := hide hLi
  clear hL hb hLi hca hma hla hra
  by_cases h0 : L = 0
  · have e0 : ((L : Int) == 0) = true := by simp [h0]
    have H0 := hide h0
    clear h0
    go_enter Tryz.func177, Tryz.ntmps177
    go_wp2
    go_ret
    exact ⟨ret_int (by rw [HLI.out.1 H0.out]; rfl), E1⟩
  · have e0 : ((L : Int) == 0) = false := by simp [h0]
    have H0 := hide h0
    clear h0
    cases b
    · go_enter Tryz.func177, Tryz.ntmps177
      go_wp2
      go_ret
      have h1 := HB.out
      have h2 : ¬ i = 0 := fun e => H0.out (HLI.out.2 e)
      exact ⟨ret_int (by rw [Int.sign_eq_one_of_pos (by simp at h1; omega)]), E1⟩
    · go_enter Tryz.func177, Tryz.ntmps177
      go_wp2
      go_ret
      have h1 := HB.out
      exact ⟨ret_int (by rw [Int.sign_eq_neg_one_of_neg (by simpa using h1)]), E1⟩

theorem mul_sign (i j : Int) : ((decide (i < 0) != decide (j < 0)) && decide (i.natAbs * j.natAbs ≠ 0)) = decide (i * j < 0) := by
  by_cases h0 : i = 0 ∨ j = 0
  · rcases h0 with rfl | rfl <;> simp
  · have hne : i.natAbs * j.natAbs ≠ 0 := Nat.mul_ne_zero (by omega) (by omega)
    rw [show decide (i.natAbs * j.natAbs ≠ 0) = true by simpa using hne, Bool.and_true]
    by_cases hi : i < 0 <;> by_cases hj : j < 0
    · have : 0 < i * j := Int.mul_pos_of_neg_of_neg hi hj
      rw [decide_eq_true hi, decide_eq_true hj, decide_eq_false (show ¬ i * j < 0 by omega)]; rfl
    · have : i * j < 0 := Int.mul_neg_of_neg_of_pos hi (by omega)
      rw [decide_eq_true hi, decide_eq_false hj, decide_eq_true this]; rfl
    · have : i * j < 0 := Int.mul_neg_of_pos_of_neg (by omega) hj
      rw [decide_eq_false hi, decide_eq_true hj, decide_eq_true this]; rfl
    · have : 0 < i * j := Int.mul_pos (by omega) (by omega)
      rw [decide_eq_false hi, decide_eq_false hj, decide_eq_false (show ¬ i * j < 0 by omega)]; rfl

set_option maxRecDepth 100000 in
set_option maxHeartbeats 1000000 in
theorem mul_any (va vb : Value) (i j : Int) (w : World) (ha : IsInt w va i) (hb : IsInt w vb j) (hsz : (limbs i.natAbs).length + (limbs j.natAbs).length ≤ 35184372088832) :
    Calls Tryz.prog 65 #[va, vb] w fun e w' => ∃ v, e = .returned v ∧ IsInt w' v (i * j) ∧ Ext w w' := by
  obtain ⟨s, rfl, hs⟩ := ha
  obtain ⟨t, rfl, ht⟩ := hb
  go_enter Tryz.func65, Tryz.ntmps65
  go_wp2_with fail
  generalize hw1 : (((w.alloc _).alloc _).alloc _) = w1
  have B0 : Blk w1 (w.heap.size) 110 #[.bool (decide (i < 0)), s] := by rw [← hw1]; exact (((Blk.new' _ _ _ _ (by simp)).alloc _).alloc _)
  have B1 : Blk w1 (w.heap.size + 1) 110 #[.bool (decide (j < 0)), t] := by rw [← hw1]; exact ((Blk.new' _ _ _ _ (by simp)).alloc _)
  have B2 : Blk w1 (w.heap.size + 2) 110 #[.bool false, .slice none 0 0] := by rw [← hw1]; exact (Blk.new' _ _ _ _ (by simp))
  have E1 : Ext w w1 := by rw [← hw1]; exact ((((Below.refl _ _).alloc (Nat.le_refl _) _).alloc (by simp <;> omega) _).alloc (by simp <;> omega) _)
  clear hw1
  have hs1 := hs.ext E1
  have ht1 := ht.ext E1
  obtain ⟨Gs, hGs⟩ : ∃ Gs : List (Value → World → Prop), Gs = [(fun v _ => v = .pointer (some ⟨w.heap.size, 0, none⟩)), (fun v _ => v = .bool (decide (i < 0))), (fun v _ => v = .pointer (some ⟨(w.heap.size + 1), 0, none⟩)), (fun v _ => v = .bool (decide (j < 0))), (fun v _ => v = .bool (decide (i < 0) != decide (j < 0))), (fun v _ => v = .pointer (some ⟨w.heap.size, 1, none⟩)), (fun v _ => v = s), (fun v _ => v = .pointer (some ⟨(w.heap.size + 1), 1, none⟩)), (fun v _ => v = t), (fun v W => Mag W v (i.natAbs * j.natAbs)), (fun v W => IsInt W v (i * j))] := ⟨_, rfl⟩
  have hst : Flow.Stay Ext Gs := by rw [hGs]; exact (Flow.Stay.cons (fun _ _ _ _ h => h) (Flow.Stay.cons (fun _ _ _ _ h => h) (Flow.Stay.cons (fun _ _ _ _ h => h) (Flow.Stay.cons (fun _ _ _ _ h => h) (Flow.Stay.cons (fun _ _ _ _ h => h) (Flow.Stay.cons (fun _ _ _ _ h => h) (Flow.Stay.cons (fun _ _ _ _ h => h) (Flow.Stay.cons (fun _ _ _ _ h => h) (Flow.Stay.cons (fun _ _ _ _ h => h) (Flow.Stay.cons (fun _ _ E _ h => Mag.ext h E) (Flow.Stay.cons (fun _ _ E _ h => IsInt.ext h E) Flow.Stay.nil)))))))))))
  refine Flow.wp_region_flow 11 (by kernel_rfl) (fun W => Ext w1 W) Gs (by kernel_rfl) (Ext.rfl' w1).drew ?flowsteps ?flowend
  case flowsteps =>
    refine ⟨?_, ?_, ?_, ?_, ?_, ?_, ?_, ?_, ?_, ?_, ?_, trivial⟩
    · refine Flow.step_val rfl fun a W hb hI hd => ?_
      have h2 : a.eval (.tmp 2) = .pointer (some ⟨w.heap.size, 0, none⟩) := hb.pre' 2 (by kernel_rfl)
      have g2 : a.tmps[2]?.getD undef = .pointer (some ⟨w.heap.size, 0, none⟩) := by have h := h2; simp only [Act.eval, Array.getD_eq_getD_getElem?] at h; exact h
      exact ⟨.pointer (some ⟨w.heap.size, 0, none⟩), by simp [go_sem, g2], by rw [hGs]; rfl⟩
    · refine Flow.step_val rfl fun a W hb hI hd => ?_
      have h5 : a.eval (.tmp 5) = .pointer (some ⟨w.heap.size, 0, none⟩) := by have h := hd _ (Array.mem_of_getElem? (i := 0) rfl) rfl; rw [hGs] at h; exact h
      exact ⟨_, run_load1 h5 (by have h := (B0.ext hI).cell 0; exact h), by rw [hGs]; rfl⟩
    · refine Flow.step_val rfl fun a W hb hI hd => ?_
      have h3 : a.eval (.tmp 3) = .pointer (some ⟨(w.heap.size + 1), 0, none⟩) := hb.pre' 3 (by kernel_rfl)
      have g3 : a.tmps[3]?.getD undef = .pointer (some ⟨(w.heap.size + 1), 0, none⟩) := by have h := h3; simp only [Act.eval, Array.getD_eq_getD_getElem?] at h; exact h
      exact ⟨.pointer (some ⟨(w.heap.size + 1), 0, none⟩), by simp [go_sem, g3], by rw [hGs]; rfl⟩
    · refine Flow.step_val rfl fun a W hb hI hd => ?_
      have h7 : a.eval (.tmp 7) = .pointer (some ⟨(w.heap.size + 1), 0, none⟩) := by have h := hd _ (Array.mem_of_getElem? (i := 0) rfl) rfl; rw [hGs] at h; exact h
      exact ⟨_, run_load1 h7 (by have h := (B1.ext hI).cell 0; exact h), by rw [hGs]; rfl⟩
    · refine Flow.step_val rfl fun a W hb hI hd => ?_
      have h6 : a.eval (.tmp 6) = .bool (decide (i < 0)) := by have h := hd _ (Array.mem_of_getElem? (i := 0) rfl) rfl; rw [hGs] at h; exact h
      have h8 : a.eval (.tmp 8) = .bool (decide (j < 0)) := by have h := hd _ (Array.mem_of_getElem? (i := 1) rfl) rfl; rw [hGs] at h; exact h
      exact ⟨_, run_neq_bool h6 h8, by rw [hGs]; rfl⟩
    · refine Flow.step_val rfl fun a W hb hI hd => ?_
      have h2 : a.eval (.tmp 2) = .pointer (some ⟨w.heap.size, 0, none⟩) := hb.pre' 2 (by kernel_rfl)
      have g2 : a.tmps[2]?.getD undef = .pointer (some ⟨w.heap.size, 0, none⟩) := by have h := h2; simp only [Act.eval, Array.getD_eq_getD_getElem?] at h; exact h
      exact ⟨.pointer (some ⟨w.heap.size, 1, none⟩), by simp [go_sem, g2], by rw [hGs]; rfl⟩
    · refine Flow.step_val rfl fun a W hb hI hd => ?_
      have h10 : a.eval (.tmp 10) = .pointer (some ⟨w.heap.size, 1, none⟩) := by have h := hd _ (Array.mem_of_getElem? (i := 0) rfl) rfl; rw [hGs] at h; exact h
      exact ⟨_, run_load1 h10 (by have h := (B0.ext hI).cell 1; exact h), by rw [hGs]; rfl⟩
    · refine Flow.step_val rfl fun a W hb hI hd => ?_
      have h3 : a.eval (.tmp 3) = .pointer (some ⟨(w.heap.size + 1), 0, none⟩) := hb.pre' 3 (by kernel_rfl)
      have g3 : a.tmps[3]?.getD undef = .pointer (some ⟨(w.heap.size + 1), 0, none⟩) := by have h := h3; simp only [Act.eval, Array.getD_eq_getD_getElem?] at h; exact h
      exact ⟨.pointer (some ⟨(w.heap.size + 1), 1, none⟩), by simp [go_sem, g3], by rw [hGs]; rfl⟩
    · refine Flow.step_val rfl fun a W hb hI hd => ?_
      have h12 : a.eval (.tmp 12) = .pointer (some ⟨(w.heap.size + 1), 1, none⟩) := by have h := hd _ (Array.mem_of_getElem? (i := 0) rfl) rfl; rw [hGs] at h; exact h
      exact ⟨_, run_load1 h12 (by have h := (B1.ext hI).cell 1; exact h), by rw [hGs]; rfl⟩
    · refine Flow.step_call rfl fun a W hb hI hd => ?_
      have h11 : a.eval (.tmp 11) = s := by have h := hd _ (Array.mem_of_getElem? (i := 0) rfl) rfl; rw [hGs] at h; exact h
      have h13 : a.eval (.tmp 13) = t := by have h := hd _ (Array.mem_of_getElem? (i := 1) rfl) rfl; rw [hGs] at h; exact h
      refine ⟨117, #[a.eval (.tmp 11), a.eval (.tmp 13)], Flow.run_enter (enters_of Tryz.func117 (by kernel_rfl) rfl) (by simp), ?_⟩
      rw [h11, h13]
      refine (times_any s t _ _ W (hs1.ext hI) (ht1.ext hI) hsz).mono ?_
      rintro e w' ⟨v, rfl, hm, hE⟩
      exact ⟨v, rfl, by rw [hGs]; exact hm, hI.tr hE, hst.at hE⟩
    · refine Flow.step_call rfl fun a W hb hI hd => ?_
      have h9 : a.eval (.tmp 9) = .bool (decide (i < 0) != decide (j < 0)) := by have h := hd _ (Array.mem_of_getElem? (i := 0) rfl) rfl; rw [hGs] at h; exact h
      have h14 : (fun v W => Mag W v (i.natAbs * j.natAbs)) (a.eval (.tmp 14)) W := by have h := hd _ (Array.mem_of_getElem? (i := 1) rfl) rfl; rw [hGs] at h; exact h
      refine ⟨110, #[a.eval (.tmp 9), a.eval (.tmp 14)], Flow.run_enter (enters_of Tryz.func110 (by kernel_rfl) rfl) (by simp), ?_⟩
      rw [h9]
      have hc := made_any (decide (i < 0) != decide (j < 0)) _ _ W h14
      rw [decide_pos_limbs, mul_sign] at hc
      refine hc.mono ?_
      rintro e w' ⟨rfl, hE⟩
      exact ⟨_, rfl, by rw [hGs]; exact ⟨_, rfl, by rw [Int.natAbs_mul]; exact Mag.ext h14 hE⟩, hI.tr hE, hst.at hE⟩
  case flowend =>
    rw [hGs]
    refine fun W hI v0 h0 v1 h1 v2 h2 v3 h3 v4 h4 v5 h5 v6 h6 v7 h7 v8 h8 v9 h9 v10 h10 => ?_
    obtain rfl : v0 = .pointer (some ⟨w.heap.size, 0, none⟩) := h0
    obtain rfl : v1 = .bool (decide (i < 0)) := h1
    obtain rfl : v2 = .pointer (some ⟨(w.heap.size + 1), 0, none⟩) := h2
    obtain rfl : v3 = .bool (decide (j < 0)) := h3
    obtain rfl : v4 = .bool (decide (i < 0) != decide (j < 0)) := h4
    obtain rfl : v5 = .pointer (some ⟨w.heap.size, 1, none⟩) := h5
    obtain rfl : v6 = s := h6
    obtain rfl : v7 = .pointer (some ⟨(w.heap.size + 1), 1, none⟩) := h7
    obtain rfl : v8 = t := h8
    have h9 : (fun v W => Mag W v (i.natAbs * j.natAbs)) v9 W := h9
    have h10 : (fun v W => IsInt W v (i * j)) v10 W := h10
    clear hst hGs
    show wpList _ _ _ _ _ _
    simp only [List.drop_succ_cons, List.drop_zero, Act.put, List.setIfInBounds_toArray, List.set_cons_zero, List.set_cons_succ]
    obtain ⟨r, hv, hm⟩ := h10
    subst hv
    have C := B2.ext hI
    have c0 := C.cell 0
    have c1 := C.cell 1
    have f0 := C.frozen 0
    have f1 := C.frozen 1
    simp at c0 c1
    have st := st_any hm.one
    go_wp2
    exact end_int rfl rfl rfl C (E1.tr hI) (by omega) hm fun W' hm hE => ⟨_, rfl, ⟨r, rfl, hm⟩, hE⟩

set_option maxRecDepth 100000 in
set_option maxHeartbeats 2000000 in
theorem add_any (va vb : Value) (i j : Int) (w : World) (ha : IsInt w va i) (hb : IsInt w vb j) (hsi : (limbs i.natAbs).length ≤ 35184372088832) (hsj : (limbs j.natAbs).length ≤ 35184372088832) :
    Calls Tryz.prog 116 #[va, vb] w fun e w' => ∃ v, e = .returned v ∧ IsInt w' v (i + j) ∧ Ext w w' := by
  obtain ⟨s, rfl, hs⟩ := ha
  obtain ⟨t, rfl, ht⟩ := hb
  by_cases hsame : decide (i < 0) = decide (j < 0)
  · have t1 : (decide (i < 0) == decide (j < 0)) = true := by simp [hsame]
    have HM : Hid ((i + j).natAbs = i.natAbs + j.natAbs) := by
      show (i + j).natAbs = _
      by_cases h1 : i < 0 <;> by_cases h2 : j < 0 <;> simp [h1, h2] at hsame <;> omega
    have HS : Hid (decide (i + j < 0) = (decide (i < 0) && decide (i.natAbs + j.natAbs ≠ 0))) := by
      show decide (i + j < 0) = _
      exact add_sign1 hsame
    clear hsame
    go_enter Tryz.func116, Tryz.ntmps116
    go_wp2_with fail
    generalize hw1 : (((w.alloc _).alloc _).alloc _) = w1
    have B0 : Blk w1 (w.heap.size) 110 #[.bool (decide (i < 0)), s] := by rw [← hw1]; exact (((Blk.new' _ _ _ _ (by simp)).alloc _).alloc _)
    have B1 : Blk w1 (w.heap.size + 1) 110 #[.bool (decide (j < 0)), t] := by rw [← hw1]; exact ((Blk.new' _ _ _ _ (by simp)).alloc _)
    have B2 : Blk w1 (w.heap.size + 2) 110 #[.bool false, .slice none 0 0] := by rw [← hw1]; exact (Blk.new' _ _ _ _ (by simp))
    have E1 : Ext w w1 := by rw [← hw1]; exact ((((Below.refl _ _).alloc (Nat.le_refl _) _).alloc (by simp <;> omega) _).alloc (by simp <;> omega) _)
    clear hw1
    have hs1 := hs.ext E1
    have ht1 := ht.ext E1
    obtain ⟨Gs, hGs⟩ : ∃ Gs : List (Value → World → Prop), Gs = [(fun v _ => v = .pointer (some ⟨w.heap.size, 0, none⟩)), (fun v _ => v = .bool (decide (i < 0))), (fun v _ => v = .pointer (some ⟨w.heap.size, 1, none⟩)), (fun v _ => v = s), (fun v _ => v = .pointer (some ⟨(w.heap.size + 1), 1, none⟩)), (fun v _ => v = t), (fun v W => Mag W v (i.natAbs + j.natAbs)), (fun v W => IsInt W v (i + j))] := ⟨_, rfl⟩
    have hst : Flow.Stay Ext Gs := by rw [hGs]; exact (Flow.Stay.cons (fun _ _ _ _ h => h) (Flow.Stay.cons (fun _ _ _ _ h => h) (Flow.Stay.cons (fun _ _ _ _ h => h) (Flow.Stay.cons (fun _ _ _ _ h => h) (Flow.Stay.cons (fun _ _ _ _ h => h) (Flow.Stay.cons (fun _ _ _ _ h => h) (Flow.Stay.cons (fun _ _ E _ h => Mag.ext h E) (Flow.Stay.cons (fun _ _ E _ h => IsInt.ext h E) Flow.Stay.nil))))))))
    refine Flow.wp_region_flow 8 (by kernel_rfl) (fun W => Ext w1 W) Gs (by kernel_rfl) (Ext.rfl' w1).drew ?flowsteps ?flowend
    case flowsteps =>
      refine ⟨?_, ?_, ?_, ?_, ?_, ?_, ?_, ?_, trivial⟩
      · refine Flow.step_val rfl fun a W hb hI hd => ?_
        have h2 : a.eval (.tmp 2) = .pointer (some ⟨w.heap.size, 0, none⟩) := hb.pre' 2 (by kernel_rfl)
        have g2 : a.tmps[2]?.getD undef = .pointer (some ⟨w.heap.size, 0, none⟩) := by have h := h2; simp only [Act.eval, Array.getD_eq_getD_getElem?] at h; exact h
        exact ⟨.pointer (some ⟨w.heap.size, 0, none⟩), by simp [go_sem, g2], by rw [hGs]; rfl⟩
      · refine Flow.step_val rfl fun a W hb hI hd => ?_
        have h11 : a.eval (.tmp 11) = .pointer (some ⟨w.heap.size, 0, none⟩) := by have h := hd _ (Array.mem_of_getElem? (i := 0) rfl) rfl; rw [hGs] at h; exact h
        exact ⟨_, run_load1 h11 (by have h := (B0.ext hI).cell 0; exact h), by rw [hGs]; rfl⟩
      · refine Flow.step_val rfl fun a W hb hI hd => ?_
        have h2 : a.eval (.tmp 2) = .pointer (some ⟨w.heap.size, 0, none⟩) := hb.pre' 2 (by kernel_rfl)
        have g2 : a.tmps[2]?.getD undef = .pointer (some ⟨w.heap.size, 0, none⟩) := by have h := h2; simp only [Act.eval, Array.getD_eq_getD_getElem?] at h; exact h
        exact ⟨.pointer (some ⟨w.heap.size, 1, none⟩), by simp [go_sem, g2], by rw [hGs]; rfl⟩
      · refine Flow.step_val rfl fun a W hb hI hd => ?_
        have h13 : a.eval (.tmp 13) = .pointer (some ⟨w.heap.size, 1, none⟩) := by have h := hd _ (Array.mem_of_getElem? (i := 0) rfl) rfl; rw [hGs] at h; exact h
        exact ⟨_, run_load1 h13 (by have h := (B0.ext hI).cell 1; exact h), by rw [hGs]; rfl⟩
      · refine Flow.step_val rfl fun a W hb hI hd => ?_
        have h3 : a.eval (.tmp 3) = .pointer (some ⟨(w.heap.size + 1), 0, none⟩) := hb.pre' 3 (by kernel_rfl)
        have g3 : a.tmps[3]?.getD undef = .pointer (some ⟨(w.heap.size + 1), 0, none⟩) := by have h := h3; simp only [Act.eval, Array.getD_eq_getD_getElem?] at h; exact h
        exact ⟨.pointer (some ⟨(w.heap.size + 1), 1, none⟩), by simp [go_sem, g3], by rw [hGs]; rfl⟩
      · refine Flow.step_val rfl fun a W hb hI hd => ?_
        have h15 : a.eval (.tmp 15) = .pointer (some ⟨(w.heap.size + 1), 1, none⟩) := by have h := hd _ (Array.mem_of_getElem? (i := 0) rfl) rfl; rw [hGs] at h; exact h
        exact ⟨_, run_load1 h15 (by have h := (B1.ext hI).cell 1; exact h), by rw [hGs]; rfl⟩
      · refine Flow.step_call rfl fun a W hb hI hd => ?_
        have h14 : a.eval (.tmp 14) = s := by have h := hd _ (Array.mem_of_getElem? (i := 0) rfl) rfl; rw [hGs] at h; exact h
        have h16 : a.eval (.tmp 16) = t := by have h := hd _ (Array.mem_of_getElem? (i := 1) rfl) rfl; rw [hGs] at h; exact h
        refine ⟨142, #[a.eval (.tmp 14), a.eval (.tmp 16)], Flow.run_enter (enters_of Tryz.func142 (by kernel_rfl) rfl) (by simp), ?_⟩
        rw [h14, h16]
        refine (plus_any s t _ _ W (hs1.ext hI) (ht1.ext hI) (by omega) (by omega)).mono ?_
        rintro e w' ⟨v, rfl, hm, hE⟩
        exact ⟨v, rfl, by rw [hGs]; exact hm, hI.tr hE, hst.at hE⟩
      · refine Flow.step_call rfl fun a W hb hI hd => ?_
        have h12 : a.eval (.tmp 12) = .bool (decide (i < 0)) := by have h := hd _ (Array.mem_of_getElem? (i := 0) rfl) rfl; rw [hGs] at h; exact h
        have h17 : (fun v W => Mag W v (i.natAbs + j.natAbs)) (a.eval (.tmp 17)) W := by have h := hd _ (Array.mem_of_getElem? (i := 1) rfl) rfl; rw [hGs] at h; exact h
        refine ⟨110, #[a.eval (.tmp 12), a.eval (.tmp 17)], Flow.run_enter (enters_of Tryz.func110 (by kernel_rfl) rfl) (by simp), ?_⟩
        rw [h12]
        have hc := made_any (decide (i < 0)) _ _ W h17
        rw [decide_pos_limbs] at hc
        refine hc.mono ?_
        rintro e w' ⟨rfl, hE⟩
        exact ⟨_, rfl, by rw [hGs]; exact ⟨_, by rw [HS.out]; rfl, by rw [HM.out]; exact Mag.ext h17 hE⟩, hI.tr hE, hst.at hE⟩
    case flowend =>
      rw [hGs]
      refine fun W hI v0 h0 v1 h1 v2 h2 v3 h3 v4 h4 v5 h5 v6 h6 v7 h7 => ?_
      obtain rfl : v0 = .pointer (some ⟨w.heap.size, 0, none⟩) := h0
      obtain rfl : v1 = .bool (decide (i < 0)) := h1
      obtain rfl : v2 = .pointer (some ⟨w.heap.size, 1, none⟩) := h2
      obtain rfl : v3 = s := h3
      obtain rfl : v4 = .pointer (some ⟨(w.heap.size + 1), 1, none⟩) := h4
      obtain rfl : v5 = t := h5
      have h6 : (fun v W => Mag W v (i.natAbs + j.natAbs)) v6 W := h6
      have h7 : (fun v W => IsInt W v (i + j)) v7 W := h7
      clear hst hGs
      show wpList _ _ _ _ _ _
      simp only [List.drop_succ_cons, List.drop_zero, Act.put, List.setIfInBounds_toArray, List.set_cons_zero, List.set_cons_succ]
      obtain ⟨r, hv, hm⟩ := h7
      subst hv
      have C := B2.ext hI
      have c0 := C.cell 0
      have c1 := C.cell 1
      have f0 := C.frozen 0
      have f1 := C.frozen 1
      simp at c0 c1
      have st := st_any hm.one
      go_wp2
      exact end_int rfl rfl rfl C (E1.tr hI) (by omega) hm fun W' hm hE => ⟨_, rfl, ⟨r, rfl, hm⟩, hE⟩
  · have t1 : (decide (i < 0) == decide (j < 0)) = false := by simp [hsame]
    have hcmp := fun W (h1 : Ext w W) => compare_any s t _ _ W (hs.ext h1) (ht.ext h1)
    by_cases hle : j.natAbs ≤ i.natAbs
    all_goals
      obtain ⟨c, hc⟩ : ∃ c, cmpNat i.natAbs j.natAbs = c := ⟨_, rfl⟩
      rw [hc] at hcmp
    · have hc0 : 0 ≤ c := by rw [← hc]; unfold cmpNat; split <;> (try split) <;> omega
      have HM : Hid ((i + j).natAbs = i.natAbs - j.natAbs) := by
        show (i + j).natAbs = _
        by_cases h1 : i < 0 <;> by_cases h2 : j < 0 <;> simp [h1, h2] at hsame <;> omega
      have HS : Hid (decide (i + j < 0) = (decide (i < 0) && decide (i.natAbs - j.natAbs ≠ 0))) := by
        show decide (i + j < 0) = _
        exact add_sign2 hsame hle
      have HC := hide hcmp
      clear hsame hc hcmp
      go_enter Tryz.func116, Tryz.ntmps116
      go_wp2_with fail
      generalize hw1 : (((w.alloc _).alloc _).alloc _) = w1
      have B0 : Blk w1 (w.heap.size) 110 #[.bool (decide (i < 0)), s] := by rw [← hw1]; exact (((Blk.new' _ _ _ _ (by simp)).alloc _).alloc _)
      have B1 : Blk w1 (w.heap.size + 1) 110 #[.bool (decide (j < 0)), t] := by rw [← hw1]; exact ((Blk.new' _ _ _ _ (by simp)).alloc _)
      have B2 : Blk w1 (w.heap.size + 2) 110 #[.bool false, .slice none 0 0] := by rw [← hw1]; exact (Blk.new' _ _ _ _ (by simp))
      have E1 : Ext w w1 := by rw [← hw1]; exact ((((Below.refl _ _).alloc (Nat.le_refl _) _).alloc (by simp <;> omega) _).alloc (by simp <;> omega) _)
      clear hw1
      refine (HC.out w1 E1).mono ?_
      rintro e w2 ⟨rfl, nq, rfl⟩
      have E2 : Ext w1 (w1.drewN nq) := below_drewN (Below.refl _ _) nq
      obtain ⟨w2, hw2⟩ : ∃ w2, w1.drewN nq = w2 := ⟨_, rfl⟩
      rw [hw2] at E2 ⊢
      clear hw2
      have E12 := E1.tr E2
      have hs1 := hs.ext E12
      have ht1 := ht.ext E12
      have C2 := B2.ext E2
      have B0 := B0.ext E2
      have B1 := B1.ext E2
      go_wp2_with fail
      obtain ⟨Gs, hGs⟩ : ∃ Gs : List (Value → World → Prop), Gs = [(fun v _ => v = .pointer (some ⟨w.heap.size, 0, none⟩)), (fun v _ => v = .bool (decide (i < 0))), (fun v _ => v = .pointer (some ⟨w.heap.size, 1, none⟩)), (fun v _ => v = s), (fun v _ => v = .pointer (some ⟨(w.heap.size + 1), 1, none⟩)), (fun v _ => v = t), (fun v W => Mag W v (i.natAbs - j.natAbs)), (fun v W => IsInt W v (i + j))] := ⟨_, rfl⟩
      have hst : Flow.Stay Ext Gs := by rw [hGs]; exact (Flow.Stay.cons (fun _ _ _ _ h => h) (Flow.Stay.cons (fun _ _ _ _ h => h) (Flow.Stay.cons (fun _ _ _ _ h => h) (Flow.Stay.cons (fun _ _ _ _ h => h) (Flow.Stay.cons (fun _ _ _ _ h => h) (Flow.Stay.cons (fun _ _ _ _ h => h) (Flow.Stay.cons (fun _ _ E _ h => Mag.ext h E) (Flow.Stay.cons (fun _ _ E _ h => IsInt.ext h E) Flow.Stay.nil))))))))
      refine Flow.wp_region_flow 8 (by kernel_rfl) (fun W => Ext w2 W) Gs (by kernel_rfl) (Ext.rfl' w2).drew ?flowsteps ?flowend
      case flowsteps =>
        refine ⟨?_, ?_, ?_, ?_, ?_, ?_, ?_, ?_, trivial⟩
        · refine Flow.step_val rfl fun a W hb hI hd => ?_
          have h2 : a.eval (.tmp 2) = .pointer (some ⟨w.heap.size, 0, none⟩) := hb.pre' 2 (by kernel_rfl)
          have g2 : a.tmps[2]?.getD undef = .pointer (some ⟨w.heap.size, 0, none⟩) := by have h := h2; simp only [Act.eval, Array.getD_eq_getD_getElem?] at h; exact h
          exact ⟨.pointer (some ⟨w.heap.size, 0, none⟩), by simp [go_sem, g2], by rw [hGs]; rfl⟩
        · refine Flow.step_val rfl fun a W hb hI hd => ?_
          have h26 : a.eval (.tmp 26) = .pointer (some ⟨w.heap.size, 0, none⟩) := by have h := hd _ (Array.mem_of_getElem? (i := 0) rfl) rfl; rw [hGs] at h; exact h
          exact ⟨_, run_load1 h26 (by have h := (B0.ext hI).cell 0; exact h), by rw [hGs]; rfl⟩
        · refine Flow.step_val rfl fun a W hb hI hd => ?_
          have h2 : a.eval (.tmp 2) = .pointer (some ⟨w.heap.size, 0, none⟩) := hb.pre' 2 (by kernel_rfl)
          have g2 : a.tmps[2]?.getD undef = .pointer (some ⟨w.heap.size, 0, none⟩) := by have h := h2; simp only [Act.eval, Array.getD_eq_getD_getElem?] at h; exact h
          exact ⟨.pointer (some ⟨w.heap.size, 1, none⟩), by simp [go_sem, g2], by rw [hGs]; rfl⟩
        · refine Flow.step_val rfl fun a W hb hI hd => ?_
          have h28 : a.eval (.tmp 28) = .pointer (some ⟨w.heap.size, 1, none⟩) := by have h := hd _ (Array.mem_of_getElem? (i := 0) rfl) rfl; rw [hGs] at h; exact h
          exact ⟨_, run_load1 h28 (by have h := (B0.ext hI).cell 1; exact h), by rw [hGs]; rfl⟩
        · refine Flow.step_val rfl fun a W hb hI hd => ?_
          have h3 : a.eval (.tmp 3) = .pointer (some ⟨(w.heap.size + 1), 0, none⟩) := hb.pre' 3 (by kernel_rfl)
          have g3 : a.tmps[3]?.getD undef = .pointer (some ⟨(w.heap.size + 1), 0, none⟩) := by have h := h3; simp only [Act.eval, Array.getD_eq_getD_getElem?] at h; exact h
          exact ⟨.pointer (some ⟨(w.heap.size + 1), 1, none⟩), by simp [go_sem, g3], by rw [hGs]; rfl⟩
        · refine Flow.step_val rfl fun a W hb hI hd => ?_
          have h30 : a.eval (.tmp 30) = .pointer (some ⟨(w.heap.size + 1), 1, none⟩) := by have h := hd _ (Array.mem_of_getElem? (i := 0) rfl) rfl; rw [hGs] at h; exact h
          exact ⟨_, run_load1 h30 (by have h := (B1.ext hI).cell 1; exact h), by rw [hGs]; rfl⟩
        · refine Flow.step_call rfl fun a W hb hI hd => ?_
          have h29 : a.eval (.tmp 29) = s := by have h := hd _ (Array.mem_of_getElem? (i := 0) rfl) rfl; rw [hGs] at h; exact h
          have h31 : a.eval (.tmp 31) = t := by have h := hd _ (Array.mem_of_getElem? (i := 1) rfl) rfl; rw [hGs] at h; exact h
          refine ⟨143, #[a.eval (.tmp 29), a.eval (.tmp 31)], Flow.run_enter (enters_of Tryz.func143 (by kernel_rfl) rfl) (by simp), ?_⟩
          rw [h29, h31]
          refine (minus_any s t _ _ W (hs1.ext hI) (ht1.ext hI) (by omega) hle).mono ?_
          rintro e w' ⟨v, rfl, hm, hE⟩
          exact ⟨v, rfl, by rw [hGs]; exact hm, hI.tr hE, hst.at hE⟩
        · refine Flow.step_call rfl fun a W hb hI hd => ?_
          have h27 : a.eval (.tmp 27) = .bool (decide (i < 0)) := by have h := hd _ (Array.mem_of_getElem? (i := 0) rfl) rfl; rw [hGs] at h; exact h
          have h32 : (fun v W => Mag W v (i.natAbs - j.natAbs)) (a.eval (.tmp 32)) W := by have h := hd _ (Array.mem_of_getElem? (i := 1) rfl) rfl; rw [hGs] at h; exact h
          refine ⟨110, #[a.eval (.tmp 27), a.eval (.tmp 32)], Flow.run_enter (enters_of Tryz.func110 (by kernel_rfl) rfl) (by simp), ?_⟩
          rw [h27]
          have hc := made_any (decide (i < 0)) _ _ W h32
          rw [decide_pos_limbs] at hc
          refine hc.mono ?_
          rintro e w' ⟨rfl, hE⟩
          exact ⟨_, rfl, by rw [hGs]; exact ⟨_, by rw [HS.out]; rfl, by rw [HM.out]; exact Mag.ext h32 hE⟩, hI.tr hE, hst.at hE⟩
      case flowend =>
        rw [hGs]
        refine fun W hI v0 h0 v1 h1 v2 h2 v3 h3 v4 h4 v5 h5 v6 h6 v7 h7 => ?_
        obtain rfl : v0 = .pointer (some ⟨w.heap.size, 0, none⟩) := h0
        obtain rfl : v1 = .bool (decide (i < 0)) := h1
        obtain rfl : v2 = .pointer (some ⟨w.heap.size, 1, none⟩) := h2
        obtain rfl : v3 = s := h3
        obtain rfl : v4 = .pointer (some ⟨(w.heap.size + 1), 1, none⟩) := h4
        obtain rfl : v5 = t := h5
        have h6 : (fun v W => Mag W v (i.natAbs - j.natAbs)) v6 W := h6
        have h7 : (fun v W => IsInt W v (i + j)) v7 W := h7
        clear hst hGs
        show wpList _ _ _ _ _ _
        simp only [List.drop_succ_cons, List.drop_zero, Act.put, List.setIfInBounds_toArray, List.set_cons_zero, List.set_cons_succ]
        obtain ⟨r, hv, hm⟩ := h7
        subst hv
        have C := C2.ext hI
        have c0 := C.cell 0
        have c1 := C.cell 1
        have f0 := C.frozen 0
        have f1 := C.frozen 1
        simp at c0 c1
        have st := st_any hm.one
        go_wp2
        exact end_int rfl rfl rfl C (E12.tr hI) (by omega) hm fun W' hm hE => ⟨_, rfl, ⟨r, rfl, hm⟩, hE⟩
    · have hc0 : c < 0 := by rw [← hc]; unfold cmpNat; split <;> (try split) <;> omega
      have HM : Hid ((i + j).natAbs = j.natAbs - i.natAbs) := by
        show (i + j).natAbs = _
        by_cases h1 : i < 0 <;> by_cases h2 : j < 0 <;> simp [h1, h2] at hsame <;> omega
      have HS : Hid (decide (i + j < 0) = (decide (j < 0) && decide (j.natAbs - i.natAbs ≠ 0))) := by
        show decide (i + j < 0) = _
        exact add_sign3 hsame (by omega)
      have HC := hide hcmp
      clear hsame hc hcmp
      go_enter Tryz.func116, Tryz.ntmps116
      go_wp2_with fail
      generalize hw1 : (((w.alloc _).alloc _).alloc _) = w1
      have B0 : Blk w1 (w.heap.size) 110 #[.bool (decide (i < 0)), s] := by rw [← hw1]; exact (((Blk.new' _ _ _ _ (by simp)).alloc _).alloc _)
      have B1 : Blk w1 (w.heap.size + 1) 110 #[.bool (decide (j < 0)), t] := by rw [← hw1]; exact ((Blk.new' _ _ _ _ (by simp)).alloc _)
      have B2 : Blk w1 (w.heap.size + 2) 110 #[.bool false, .slice none 0 0] := by rw [← hw1]; exact (Blk.new' _ _ _ _ (by simp))
      have E1 : Ext w w1 := by rw [← hw1]; exact ((((Below.refl _ _).alloc (Nat.le_refl _) _).alloc (by simp <;> omega) _).alloc (by simp <;> omega) _)
      clear hw1
      refine (HC.out w1 E1).mono ?_
      rintro e w2 ⟨rfl, nq, rfl⟩
      have E2 : Ext w1 (w1.drewN nq) := below_drewN (Below.refl _ _) nq
      obtain ⟨w2, hw2⟩ : ∃ w2, w1.drewN nq = w2 := ⟨_, rfl⟩
      rw [hw2] at E2 ⊢
      clear hw2
      have E12 := E1.tr E2
      have hs1 := hs.ext E12
      have ht1 := ht.ext E12
      have C2 := B2.ext E2
      have B0 := B0.ext E2
      have B1 := B1.ext E2
      go_wp2_with fail
      obtain ⟨Gs, hGs⟩ : ∃ Gs : List (Value → World → Prop), Gs = [(fun v _ => v = .pointer (some ⟨(w.heap.size + 1), 0, none⟩)), (fun v _ => v = .bool (decide (j < 0))), (fun v _ => v = .pointer (some ⟨(w.heap.size + 1), 1, none⟩)), (fun v _ => v = t), (fun v _ => v = .pointer (some ⟨w.heap.size, 1, none⟩)), (fun v _ => v = s), (fun v W => Mag W v (j.natAbs - i.natAbs)), (fun v W => IsInt W v (i + j))] := ⟨_, rfl⟩
      have hst : Flow.Stay Ext Gs := by rw [hGs]; exact (Flow.Stay.cons (fun _ _ _ _ h => h) (Flow.Stay.cons (fun _ _ _ _ h => h) (Flow.Stay.cons (fun _ _ _ _ h => h) (Flow.Stay.cons (fun _ _ _ _ h => h) (Flow.Stay.cons (fun _ _ _ _ h => h) (Flow.Stay.cons (fun _ _ _ _ h => h) (Flow.Stay.cons (fun _ _ E _ h => Mag.ext h E) (Flow.Stay.cons (fun _ _ E _ h => IsInt.ext h E) Flow.Stay.nil))))))))
      refine Flow.wp_region_flow 8 (by kernel_rfl) (fun W => Ext w2 W) Gs (by kernel_rfl) (Ext.rfl' w2).drew ?flowsteps ?flowend
      case flowsteps =>
        refine ⟨?_, ?_, ?_, ?_, ?_, ?_, ?_, ?_, trivial⟩
        · refine Flow.step_val rfl fun a W hb hI hd => ?_
          have h3 : a.eval (.tmp 3) = .pointer (some ⟨(w.heap.size + 1), 0, none⟩) := hb.pre' 3 (by kernel_rfl)
          have g3 : a.tmps[3]?.getD undef = .pointer (some ⟨(w.heap.size + 1), 0, none⟩) := by have h := h3; simp only [Act.eval, Array.getD_eq_getD_getElem?] at h; exact h
          exact ⟨.pointer (some ⟨(w.heap.size + 1), 0, none⟩), by simp [go_sem, g3], by rw [hGs]; rfl⟩
        · refine Flow.step_val rfl fun a W hb hI hd => ?_
          have h34 : a.eval (.tmp 34) = .pointer (some ⟨(w.heap.size + 1), 0, none⟩) := by have h := hd _ (Array.mem_of_getElem? (i := 0) rfl) rfl; rw [hGs] at h; exact h
          exact ⟨_, run_load1 h34 (by have h := (B1.ext hI).cell 0; exact h), by rw [hGs]; rfl⟩
        · refine Flow.step_val rfl fun a W hb hI hd => ?_
          have h3 : a.eval (.tmp 3) = .pointer (some ⟨(w.heap.size + 1), 0, none⟩) := hb.pre' 3 (by kernel_rfl)
          have g3 : a.tmps[3]?.getD undef = .pointer (some ⟨(w.heap.size + 1), 0, none⟩) := by have h := h3; simp only [Act.eval, Array.getD_eq_getD_getElem?] at h; exact h
          exact ⟨.pointer (some ⟨(w.heap.size + 1), 1, none⟩), by simp [go_sem, g3], by rw [hGs]; rfl⟩
        · refine Flow.step_val rfl fun a W hb hI hd => ?_
          have h36 : a.eval (.tmp 36) = .pointer (some ⟨(w.heap.size + 1), 1, none⟩) := by have h := hd _ (Array.mem_of_getElem? (i := 0) rfl) rfl; rw [hGs] at h; exact h
          exact ⟨_, run_load1 h36 (by have h := (B1.ext hI).cell 1; exact h), by rw [hGs]; rfl⟩
        · refine Flow.step_val rfl fun a W hb hI hd => ?_
          have h2 : a.eval (.tmp 2) = .pointer (some ⟨w.heap.size, 0, none⟩) := hb.pre' 2 (by kernel_rfl)
          have g2 : a.tmps[2]?.getD undef = .pointer (some ⟨w.heap.size, 0, none⟩) := by have h := h2; simp only [Act.eval, Array.getD_eq_getD_getElem?] at h; exact h
          exact ⟨.pointer (some ⟨w.heap.size, 1, none⟩), by simp [go_sem, g2], by rw [hGs]; rfl⟩
        · refine Flow.step_val rfl fun a W hb hI hd => ?_
          have h38 : a.eval (.tmp 38) = .pointer (some ⟨w.heap.size, 1, none⟩) := by have h := hd _ (Array.mem_of_getElem? (i := 0) rfl) rfl; rw [hGs] at h; exact h
          exact ⟨_, run_load1 h38 (by have h := (B0.ext hI).cell 1; exact h), by rw [hGs]; rfl⟩
        · refine Flow.step_call rfl fun a W hb hI hd => ?_
          have h37 : a.eval (.tmp 37) = t := by have h := hd _ (Array.mem_of_getElem? (i := 0) rfl) rfl; rw [hGs] at h; exact h
          have h39 : a.eval (.tmp 39) = s := by have h := hd _ (Array.mem_of_getElem? (i := 1) rfl) rfl; rw [hGs] at h; exact h
          refine ⟨143, #[a.eval (.tmp 37), a.eval (.tmp 39)], Flow.run_enter (enters_of Tryz.func143 (by kernel_rfl) rfl) (by simp), ?_⟩
          rw [h37, h39]
          refine (minus_any t s _ _ W (ht1.ext hI) (hs1.ext hI) (by omega) (by omega)).mono ?_
          rintro e w' ⟨v, rfl, hm, hE⟩
          exact ⟨v, rfl, by rw [hGs]; exact hm, hI.tr hE, hst.at hE⟩
        · refine Flow.step_call rfl fun a W hb hI hd => ?_
          have h35 : a.eval (.tmp 35) = .bool (decide (j < 0)) := by have h := hd _ (Array.mem_of_getElem? (i := 0) rfl) rfl; rw [hGs] at h; exact h
          have h40 : (fun v W => Mag W v (j.natAbs - i.natAbs)) (a.eval (.tmp 40)) W := by have h := hd _ (Array.mem_of_getElem? (i := 1) rfl) rfl; rw [hGs] at h; exact h
          refine ⟨110, #[a.eval (.tmp 35), a.eval (.tmp 40)], Flow.run_enter (enters_of Tryz.func110 (by kernel_rfl) rfl) (by simp), ?_⟩
          rw [h35]
          have hc := made_any (decide (j < 0)) _ _ W h40
          rw [decide_pos_limbs] at hc
          refine hc.mono ?_
          rintro e w' ⟨rfl, hE⟩
          exact ⟨_, rfl, by rw [hGs]; exact ⟨_, by rw [HS.out]; rfl, by rw [HM.out]; exact Mag.ext h40 hE⟩, hI.tr hE, hst.at hE⟩
      case flowend =>
        rw [hGs]
        refine fun W hI v0 h0 v1 h1 v2 h2 v3 h3 v4 h4 v5 h5 v6 h6 v7 h7 => ?_
        obtain rfl : v0 = .pointer (some ⟨(w.heap.size + 1), 0, none⟩) := h0
        obtain rfl : v1 = .bool (decide (j < 0)) := h1
        obtain rfl : v2 = .pointer (some ⟨(w.heap.size + 1), 1, none⟩) := h2
        obtain rfl : v3 = t := h3
        obtain rfl : v4 = .pointer (some ⟨w.heap.size, 1, none⟩) := h4
        obtain rfl : v5 = s := h5
        have h6 : (fun v W => Mag W v (j.natAbs - i.natAbs)) v6 W := h6
        have h7 : (fun v W => IsInt W v (i + j)) v7 W := h7
        clear hst hGs
        show wpList _ _ _ _ _ _
        simp only [List.drop_succ_cons, List.drop_zero, Act.put, List.setIfInBounds_toArray, List.set_cons_zero, List.set_cons_succ]
        obtain ⟨r, hv, hm⟩ := h7
        subst hv
        have C := C2.ext hI
        have c0 := C.cell 0
        have c1 := C.cell 1
        have f0 := C.frozen 0
        have f1 := C.frozen 1
        simp at c0 c1
        have st := st_any hm.one
        go_wp2
        exact end_int rfl rfl rfl C (E12.tr hI) (by omega) hm fun W' hm hE => ⟨_, rfl, ⟨r, rfl, hm⟩, hE⟩

set_option maxRecDepth 100000 in
set_option maxHeartbeats 1000000 in
theorem sub_any (va vb : Value) (i j : Int) (w : World) (ha : IsInt w va i) (hb : IsInt w vb j) (hsi : (limbs i.natAbs).length ≤ 35184372088832) (hsj : (limbs j.natAbs).length ≤ 35184372088832) :
    Calls Tryz.prog 115 #[va, vb] w fun e w' => ∃ v, e = .returned v ∧ IsInt w' v (i - j) ∧ Ext w w' := by
  have hai := ha
  have hbi := hb
  obtain ⟨s, rfl, hs⟩ := ha
  obtain ⟨t, rfl, ht⟩ := hb
  go_enter Tryz.func115, Tryz.ntmps115
  go_wp2_with fail
  generalize hw1 : (((w.alloc _).alloc _).alloc _) = w1
  have B0 : Blk w1 (w.heap.size) 110 #[.bool (decide (i < 0)), s] := by rw [← hw1]; exact (((Blk.new' _ _ _ _ (by simp)).alloc _).alloc _)
  have B1 : Blk w1 (w.heap.size + 1) 110 #[.bool (decide (j < 0)), t] := by rw [← hw1]; exact ((Blk.new' _ _ _ _ (by simp)).alloc _)
  have B2 : Blk w1 (w.heap.size + 2) 110 #[.bool false, .slice none 0 0] := by rw [← hw1]; exact (Blk.new' _ _ _ _ (by simp))
  have E1 : Ext w w1 := by rw [← hw1]; exact ((((Below.refl _ _).alloc (Nat.le_refl _) _).alloc (by simp <;> omega) _).alloc (by simp <;> omega) _)
  clear hw1
  have ha1 := hai.ext E1
  have hb1 := hbi.ext E1
  obtain ⟨Gs, hGs⟩ : ∃ Gs : List (Value → World → Prop), Gs = [(fun v _ => v = .agg #[.bool (decide (i < 0)), s]), (fun v _ => v = .agg #[.bool (decide (j < 0)), t]), (fun v W => IsInt W v (-j)), (fun v W => IsInt W v (i - j))] := ⟨_, rfl⟩
  have hst : Flow.Stay Ext Gs := by rw [hGs]; exact (Flow.Stay.cons (fun _ _ _ _ h => h) (Flow.Stay.cons (fun _ _ _ _ h => h) (Flow.Stay.cons (fun _ _ E _ h => IsInt.ext h E) (Flow.Stay.cons (fun _ _ E _ h => IsInt.ext h E) Flow.Stay.nil))))
  refine Flow.wp_region_flow 4 (by kernel_rfl) (fun W => Ext w1 W) Gs (by kernel_rfl) (Ext.rfl' w1).drew ?flowsteps ?flowend
  case flowsteps =>
    refine ⟨?_, ?_, ?_, ?_, trivial⟩
    · refine Flow.step_val rfl fun a W hb hI hd => ?_
      have h2 : a.eval (.tmp 2) = .pointer (some ⟨w.heap.size, 0, none⟩) := hb.pre' 2 (by kernel_rfl)
      exact ⟨_, run_load2 h2 (by have h := (B0.ext hI).cell 0; exact h) (by have h := (B0.ext hI).cell 1; exact h), by rw [hGs]; rfl⟩
    · refine Flow.step_val rfl fun a W hb hI hd => ?_
      have h3 : a.eval (.tmp 3) = .pointer (some ⟨(w.heap.size + 1), 0, none⟩) := hb.pre' 3 (by kernel_rfl)
      exact ⟨_, run_load2 h3 (by have h := (B1.ext hI).cell 0; exact h) (by have h := (B1.ext hI).cell 1; exact h), by rw [hGs]; rfl⟩
    · refine Flow.step_call rfl fun a W hb hI hd => ?_
      have h6 : a.eval (.tmp 6) = .agg #[.bool (decide (j < 0)), t] := by have h := hd _ (Array.mem_of_getElem? (i := 0) rfl) rfl; rw [hGs] at h; exact h
      refine ⟨135, #[a.eval (.tmp 6)], Flow.run_enter (enters_of Tryz.func135 (by kernel_rfl) rfl) (by simp), ?_⟩
      rw [h6]
      refine (neg_any _ _ W (hb1.ext hI)).mono ?_
      rintro e w' ⟨v, rfl, hm, hE⟩
      exact ⟨v, rfl, by rw [hGs]; exact hm, hI.tr hE, hst.at hE⟩
    · refine Flow.step_call rfl fun a W hb hI hd => ?_
      have h5 : a.eval (.tmp 5) = .agg #[.bool (decide (i < 0)), s] := by have h := hd _ (Array.mem_of_getElem? (i := 0) rfl) rfl; rw [hGs] at h; exact h
      have h7 : (fun v W => IsInt W v (-j)) (a.eval (.tmp 7)) W := by have h := hd _ (Array.mem_of_getElem? (i := 1) rfl) rfl; rw [hGs] at h; exact h
      refine ⟨116, #[a.eval (.tmp 5), a.eval (.tmp 7)], Flow.run_enter (enters_of Tryz.func116 (by kernel_rfl) rfl) (by simp), ?_⟩
      rw [h5]
      refine (add_any _ _ _ _ W (ha1.ext hI) h7 hsi (by rw [Int.natAbs_neg]; exact hsj)).mono ?_
      rintro e w' ⟨v, rfl, hm, hE⟩
      exact ⟨v, rfl, by rw [hGs]; exact hm, hI.tr hE, hst.at hE⟩
  case flowend =>
    rw [hGs]
    refine fun W hI v0 h0 v1 h1 v2 h2 v3 h3 => ?_
    obtain rfl : v0 = .agg #[.bool (decide (i < 0)), s] := h0
    obtain rfl : v1 = .agg #[.bool (decide (j < 0)), t] := h1
    have h2 : (fun v W => IsInt W v (-j)) v2 W := h2
    have h3 : (fun v W => IsInt W v (i - j)) v3 W := h3
    clear hst hGs
    show wpList _ _ _ _ _ _
    simp only [List.drop_succ_cons, List.drop_zero, Act.put, List.setIfInBounds_toArray, List.set_cons_zero, List.set_cons_succ]
    obtain ⟨r, hv, hm⟩ := h3
    subst hv
    have C := B2.ext hI
    have c0 := C.cell 0
    have c1 := C.cell 1
    have f0 := C.frozen 0
    have f1 := C.frozen 1
    simp at c0 c1
    have st := st_any hm.one
    go_wp2
    exact end_int rfl rfl rfl C (E1.tr hI) (by omega) hm fun W' hm hE => ⟨_, rfl, ⟨r, rfl, hm⟩, hE⟩

set_option maxRecDepth 100000 in
set_option maxHeartbeats 1000000 in
theorem cmp_any (va vb : Value) (i j : Int) (w : World) (ha : IsInt w va i) (hb : IsInt w vb j) (hsi : (limbs i.natAbs).length ≤ 35184372088832) (hsj : (limbs j.natAbs).length ≤ 35184372088832) :
    Calls Tryz.prog 144 #[va, vb] w fun e w' => e = .returned (.int .i64 (i - j).sign) ∧ Ext w w' := by
  have hai := ha
  have hbi := hb
  obtain ⟨s, rfl, hs⟩ := ha
  obtain ⟨t, rfl, ht⟩ := hb
  go_enter Tryz.func144, Tryz.ntmps144
  go_wp2_with fail
  generalize hw1 : ((w.alloc _).alloc _) = w1
  have B0 : Blk w1 (w.heap.size) 110 #[.bool (decide (i < 0)), s] := by rw [← hw1]; exact ((Blk.new' _ _ _ _ (by simp)).alloc _)
  have B1 : Blk w1 (w.heap.size + 1) 110 #[.bool (decide (j < 0)), t] := by rw [← hw1]; exact (Blk.new' _ _ _ _ (by simp))
  have E1 : Ext w w1 := by rw [← hw1]; exact (((Below.refl _ _).alloc (Nat.le_refl _) _).alloc (by simp <;> omega) _)
  clear hw1
  refine (sub_any _ _ i j w1 (hai.ext E1) (hbi.ext E1) hsi hsj).mono ?_
  rintro e w2 ⟨v, rfl, hv, E2⟩
  go_wp2_with fail
  refine (sign_any _ _ w2 hv).mono ?_
  rintro e w3 ⟨rfl, E3⟩
  go_wp2
  go_ret
  exact ⟨rfl, (E1.tr E2).tr E3⟩

end Go.Proofs.YtncabodphjkkfaaGreat
