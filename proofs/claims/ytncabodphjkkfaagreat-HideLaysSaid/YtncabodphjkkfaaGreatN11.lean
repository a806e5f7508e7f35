/- Quotient and remainder of integers, the divisor above 0. Conditions: none. -/
import Derived.Test.YtncabodphjkkfaaGreatN10
namespace Go.Proofs.YtncabodphjkkfaaGreat
open Go.RowKit Go.Limbs Go.Shelf

theorem run_alloc110 {W : World} {ρ : Operand → Value} {dst : Option Tmp} {ty : TypeId} {pos : String} {after : Array Edge} {guard : Option (Nat × Bool)} :
    (execOp ρ { dst, op := .alloc 110, type := ty, pos, after, guard }).run Tryz.prog W = .ok (.value (.pointer (some ⟨W.heap.size, 0, none⟩))) (W.alloc (.cells #[.bool false, .slice none 0 0] 110)) := by
  simp [go_sem, execOp]

theorem run_neq_false {W : World} {b : Bool} {ρ : Operand → Value} {x y : Operand} {dst : Option Tmp} {ty : TypeId} {pos : String} {after : Array Edge} {guard : Option (Nat × Bool)}
    (hx : ρ x = .bool b) (hy : ρ y = .bool false) : (execOp ρ { dst, op := .binOp .neq 4 x y 4, type := ty, pos, after, guard }).run Tryz.prog W = .ok (.value (.bool b)) W := by
  have h := run_neq_bool (W := W) (dst := dst) (ty := ty) (pos := pos) (after := after) (guard := guard) hx hy
  rwa [Bool.bne_false] at h

theorem results_cell2 {fn : Func} {d d' : Tmp} {T T' : TypeId} {tmps : Array Value} {W : World} {g g' : Nat} {x y x' y' : Value} (hr : fn.results = #[.cell d T, .cell d' T']) (ht : tmps.getD d undef = .pointer (some ⟨g, 0, none⟩))
    (ht' : tmps.getD d' undef = .pointer (some ⟨g', 0, none⟩)) (hB : Blk W g T #[x, y]) (hB' : Blk W g' T' #[x', y']) (hT : T = 110 ∧ T' = 110 ∨ T = 57 ∧ T' = 57 := by decide) :
    (results fn tmps).run Tryz.prog W = .ok (.tuple #[.agg #[x, y], .agg #[x', y']]) W := by
  have c0 := hB.cell 0
  have c1 := hB.cell 1
  have c2 := hB'.cell 0
  have c3 := hB'.cell 1
  simp at c0 c1 c2 c3 ht ht'
  rcases hT with ⟨rfl, rfl⟩ | ⟨rfl, rfl⟩ <;> simp [results, hr, ht, ht', go_sem, c0, c1, c2, c3]

/-- Two stores of an integer's two cells. -/
theorem IsInt.put {w : World} {v : Value} {i : Int} (h : IsInt w v i) {g : Nat} {T : TypeId} {x y : Value} (hB : Blk w g T #[x, y]) (hT : 163 ≠ T) (a b : Value) : IsInt ((w.setCell ⟨g, 0, none⟩ a).setCell ⟨g, 1, none⟩ b) v i :=
  (h.store (p := ⟨g, 0, none⟩) hB.ty hT _).store (p := ⟨g, 1, none⟩) (hB.ty.setCell _ _) hT _

theorem tdiv_sign {i j : Int} (hj : 0 < j) : decide (i.tdiv j < 0) = (decide (i < 0) && decide (i.natAbs / j.natAbs ≠ 0)) := by
  rw [← Bool.decide_and]
  refine decide_eq_decide.2 ?_
  obtain ⟨b, rfl⟩ : ∃ b : Nat, j = b := ⟨j.toNat, by omega⟩
  by_cases hi : i < 0
  · obtain ⟨a, rfl⟩ : ∃ a : Nat, i = -a := ⟨(-i).toNat, by omega⟩
    rw [Int.neg_tdiv, ← Int.ofNat_tdiv, Int.natAbs_neg, Int.natAbs_natCast, Int.natAbs_natCast]
    generalize a / b = q
    omega
  · obtain ⟨a, rfl⟩ : ∃ a : Nat, i = a := ⟨i.toNat, by omega⟩
    rw [← Int.ofNat_tdiv, Int.natAbs_natCast, Int.natAbs_natCast]
    generalize a / b = q
    omega
theorem tmod_sign {i j : Int} (hj : 0 < j) : decide (i.tmod j < 0) = (decide (i < 0) && decide (i.natAbs % j.natAbs ≠ 0)) := by
  rw [← Bool.decide_and]
  refine decide_eq_decide.2 ?_
  obtain ⟨b, rfl⟩ : ∃ b : Nat, j = b := ⟨j.toNat, by omega⟩
  by_cases hi : i < 0
  · obtain ⟨a, rfl⟩ : ∃ a : Nat, i = -a := ⟨(-i).toNat, by omega⟩
    rw [Int.neg_tmod, ← Int.ofNat_tmod, Int.natAbs_neg, Int.natAbs_natCast, Int.natAbs_natCast]
    generalize a % b = q
    omega
  · obtain ⟨a, rfl⟩ : ∃ a : Nat, i = a := ⟨i.toNat, by omega⟩
    rw [← Int.ofNat_tmod, Int.natAbs_natCast, Int.natAbs_natCast]
    generalize a % b = q
    omega
theorem tdiv_abs {i j : Int} : (i.tdiv j).natAbs = i.natAbs / j.natAbs := Int.natAbs_tdiv _ _
theorem tmod_abs {i j : Int} : (i.tmod j).natAbs = i.natAbs % j.natAbs := Int.natAbs_tmod _ _
theorem IsInt.tdiv {W : World} {q : Value} {i j : Int} (hj : 0 < j) (h : Mag W q (i.natAbs / j.natAbs)) : IsInt W (.agg #[.bool (decide (i < 0) && decide (i.natAbs / j.natAbs ≠ 0)), q]) (i.tdiv j) :=
  ⟨q, by rw [tdiv_sign hj], by rw [tdiv_abs]; exact h⟩
theorem IsInt.tmod {W : World} {q : Value} {i j : Int} (hj : 0 < j) (h : Mag W q (i.natAbs % j.natAbs)) : IsInt W (.agg #[.bool (decide (i < 0) && decide (i.natAbs % j.natAbs ≠ 0)), q]) (i.tmod j) :=
  ⟨q, by rw [tmod_sign hj], by rw [tmod_abs]; exact h⟩
theorem ediv_of_t {i j : Int} (_hj : 0 < j) (h : 0 ≤ i ∨ i.natAbs % j.natAbs = 0) : i.tdiv j = i / j ∧ i.tmod j = i % j := by
  have hd : 0 ≤ i ∨ j ∣ i := h.imp id (fun h => Int.natAbs_dvd_natAbs.1 (Nat.dvd_of_mod_eq_zero h))
  rw [Int.tdiv_eq_ediv, Int.tmod_eq_emod, if_pos hd, if_pos hd]
  omega
theorem ediv_of_f {i j : Int} (hj : 0 < j) (h : i < 0) (h' : i.natAbs % j.natAbs ≠ 0) : i.tdiv j - 1 = i / j ∧ i.tmod j + j = i % j := by
  have hd : ¬ (0 ≤ i ∨ j ∣ i) := by
    rintro (h1 | h1)
    · omega
    · exact h' (Nat.mod_eq_zero_of_dvd (Int.natAbs_dvd_natAbs.2 h1))
  rw [Int.tdiv_eq_ediv, Int.tmod_eq_emod, if_neg hd, if_neg hd, Int.sign_eq_one_of_pos hj]
  omega

theorem one_len : (limbs (1 : Int).natAbs).length ≤ 35184372088832 := by
  have h : (limbs 1).length ≤ 1 := limbs_length_le (k := 1) (by decide)
  exact Nat.le_trans h (by decide)

/-- Both of an integer's cells stored in each of two blocks. -/
theorem put4 {w0 W : World} {g g' : Nat} {a b a' b' : Value} (hB : Blk W g 110 #[a, b]) (hB' : Blk W g' 110 #[a', b']) (hne : g ≠ g') (hg : w0.heap.size ≤ g) (hg' : w0.heap.size ≤ g') (x y x' y' : Value) {E : Ext w0 W} :
    ∃ W', ((((W.setCell ⟨g, 0, none⟩ x).setCell ⟨g, 1, none⟩ y).setCell ⟨g', 0, none⟩ x').setCell ⟨g', 1, none⟩ y') = W' ∧ Blk W' g 110 #[x, y] ∧ Blk W' g' 110 #[x', y'] ∧ Ext w0 W' ∧
      (∀ v i, IsInt W v i → IsInt W' v i) ∧ (∀ v i, Mag W v i → Mag W' v i) ∧ (∀ k T cs, k ≠ g → k ≠ g' → Blk W k T cs → Blk W' k T cs) ∧ W'.heap.size = W.heap.size := by
  have h1 := hB'.far (p := ⟨g, 0, none⟩) (Ne.symm hne) x
  have h2 := h1.far (p := ⟨g, 1, none⟩) (Ne.symm hne) y
  have h3 := h2.set_ 0 x'
  have h4 := h3.set_ 1 y'
  have k1 := hB.set_ 0 x
  have k2 := k1.set_ 1 y
  have k3 := k2.far (p := ⟨g', 0, none⟩) hne x'
  have k4 := k3.far (p := ⟨g', 1, none⟩) hne y'
  refine ⟨_, rfl, k4, h4, (((E.setCell (p := ⟨g, 0, none⟩) hg _).setCell (p := ⟨g, 1, none⟩) hg _).setCell (p := ⟨g', 0, none⟩) hg' _).setCell (p := ⟨g', 1, none⟩) hg' _, fun v i h => (h.put hB (by decide) x y).put h2 (by decide) x' y', fun v i h => ?_, fun k T cs n n' h => ?_, by simp [World.setCell]⟩
  · exact (((h.store (p := ⟨g, 0, none⟩) hB.ty (by decide) _).store (p := ⟨g, 1, none⟩) (hB.ty.setCell _ _) (by decide) _).store (p := ⟨g', 0, none⟩) h2.ty (by decide) _).store (p := ⟨g', 1, none⟩) (h2.ty.setCell _ _) (by decide) _
  · exact (((h.far (p := ⟨g, 0, none⟩) n _).far (p := ⟨g, 1, none⟩) n _).far (p := ⟨g', 0, none⟩) n' _).far (p := ⟨g', 1, none⟩) n' _

set_option maxRecDepth 100000 in
set_option maxHeartbeats 2000000 in
theorem quo_any (va vb : Value) (i j : Int) (w : World) (ha : IsInt w va i) (hb : IsInt w vb j) (hj : 0 < j) (hsi : (limbs i.natAbs).length ≤ 17592186044416) (hsj : (limbs j.natAbs).length ≤ 17592186044416) :
    Calls Tryz.prog 63 #[va, vb] w fun e w' => ∃ u v, e = .returned (.tuple #[u, v]) ∧ IsInt w' u (i / j) ∧ IsInt w' v (i % j) ∧ Ext w w' := by
  have hbi := hb
  obtain ⟨s, rfl, hs⟩ := ha
  obtain ⟨t, rfl, ht⟩ := hb
  rw [decide_eq_false (show ¬ j < 0 by omega)] at hbi ⊢
  go_enter Tryz.func63, Tryz.ntmps63
  go_wp2_with fail
  generalize hw1 : ((((w.alloc _).alloc _).alloc _).alloc _) = w1
  have B0 : Blk w1 (w.heap.size) 110 #[.bool (decide (i < 0)), s] := by rw [← hw1]; exact ((((Blk.new' _ _ _ _ (by simp)).alloc _).alloc _).alloc _)
  have B1 : Blk w1 (w.heap.size + 1) 110 #[.bool false, t] := by rw [← hw1]; exact (((Blk.new' _ _ _ _ (by simp)).alloc _).alloc _)
  have B2 : Blk w1 (w.heap.size + 2) 110 #[.bool false, .slice none 0 0] := by rw [← hw1]; exact ((Blk.new' _ _ _ _ (by simp)).alloc _)
  have B3 : Blk w1 (w.heap.size + 3) 110 #[.bool false, .slice none 0 0] := by rw [← hw1]; exact (Blk.new' _ _ _ _ (by simp))
  have E1 : Ext w w1 := by rw [← hw1]; exact (((((Below.refl _ _).alloc (Nat.le_refl _) _).alloc (by simp <;> omega) _).alloc (by simp <;> omega) _).alloc (by simp <;> omega) _)
  clear hw1
  refine (part_any s t _ _ w1 (hs.ext E1) (ht.ext E1) (by omega) hsi).mono ?_
  rintro e w2 ⟨q, r, rfl, hq, hr, E2⟩
  have C0 := B0.ext E2
  have C1 := B1.ext E2
  have C2 := B2.ext E2
  have C3 := B3.ext E2
  have hsz2 := E2.size
  go_wp2_with fail
  obtain ⟨Gs, hGs⟩ : ∃ Gs : List (Value → World → Prop), Gs = [(fun v _ => v = .pointer (some ⟨w.heap.size, 0, none⟩)), (fun v _ => v = .bool (decide (i < 0))), (fun v _ => v = .pointer (some ⟨(w.heap.size + 1), 0, none⟩)), (fun v _ => v = .bool false), (fun v _ => v = .bool (decide (i < 0))), (fun v _ => v = q), (fun v W => v = .agg #[.bool (decide (i < 0) && decide (i.natAbs / j.natAbs ≠ 0)), q]), (fun v _ => v = .pointer (some ⟨w.heap.size, 0, none⟩)), (fun v _ => v = .bool (decide (i < 0))), (fun v _ => v = r), (fun v W => v = .agg #[.bool (decide (i < 0) && decide (i.natAbs % j.natAbs ≠ 0)), r]), (fun v W => ∃ g, v = .pointer (some ⟨g, 0, none⟩) ∧ w1.heap.size ≤ g ∧ Blk W g 110 #[.bool false, .slice none 0 0]), (fun v W => ∃ g, v = .pointer (some ⟨g, 0, none⟩) ∧ w1.heap.size ≤ g ∧ Blk W g 110 #[.bool false, .slice none 0 0])] := ⟨_, rfl⟩
  have hst : Flow.Stay Ext Gs := by rw [hGs]; exact (Flow.Stay.cons (fun _ _ _ _ h => h) (Flow.Stay.cons (fun _ _ _ _ h => h) (Flow.Stay.cons (fun _ _ _ _ h => h) (Flow.Stay.cons (fun _ _ _ _ h => h) (Flow.Stay.cons (fun _ _ _ _ h => h) (Flow.Stay.cons (fun _ _ _ _ h => h) (Flow.Stay.cons (fun _ _ _ _ h => h) (Flow.Stay.cons (fun _ _ _ _ h => h) (Flow.Stay.cons (fun _ _ _ _ h => h) (Flow.Stay.cons (fun _ _ _ _ h => h) (Flow.Stay.cons (fun _ _ _ _ h => h) (Flow.Stay.cons (fun _ _ E _ h => by obtain ⟨g, h1, h2, h3⟩ := h; exact ⟨g, h1, h2, h3.ext E⟩) (Flow.Stay.cons (fun _ _ E _ h => by obtain ⟨g, h1, h2, h3⟩ := h; exact ⟨g, h1, h2, h3.ext E⟩) Flow.Stay.nil)))))))))))))
  refine Flow.wp_region_flowR 13 (by kernel_rfl) (fun W => Ext w2 W) (fun i j v u => (i = 11 ∧ j = 12 ∨ i = 12 ∧ j = 11) → v ≠ u) Gs (by kernel_rfl) (Ext.rfl' w2).drew ?flowsteps ?flowend
  case flowsteps =>
    refine ⟨?_, ?_, ?_, ?_, ?_, ?_, ?_, ?_, ?_, ?_, ?_, ?_, ?_, trivial⟩
    · refine Flow.step_valR rfl (fun _ _ _ _ => ⟨fun h => by omega, fun h => by omega⟩) fun a W hb hI hd => ?_
      have h2 : a.eval (.tmp 2) = .pointer (some ⟨w.heap.size, 0, none⟩) := hb.pre' 2 (by kernel_rfl)
      have g2 : a.tmps[2]?.getD undef = .pointer (some ⟨w.heap.size, 0, none⟩) := by have h := h2; simp only [Act.eval, Array.getD_eq_getD_getElem?] at h; exact h
      exact ⟨.pointer (some ⟨w.heap.size, 0, none⟩), by simp [go_sem, g2], by rw [hGs]; rfl⟩
    · refine Flow.step_valR rfl (fun _ _ _ _ => ⟨fun h => by omega, fun h => by omega⟩) fun a W hb hI hd => ?_
      have h18 : a.eval (.tmp 18) = .pointer (some ⟨w.heap.size, 0, none⟩) := by have h := hd _ (Array.mem_of_getElem? (i := 0) rfl) rfl; rw [hGs] at h; exact h
      exact ⟨_, run_load1 h18 (by have h := (C0.ext hI).cell 0; exact h), by rw [hGs]; rfl⟩
    · refine Flow.step_valR rfl (fun _ _ _ _ => ⟨fun h => by omega, fun h => by omega⟩) fun a W hb hI hd => ?_
      have h3 : a.eval (.tmp 3) = .pointer (some ⟨(w.heap.size + 1), 0, none⟩) := hb.pre' 3 (by kernel_rfl)
      have g3 : a.tmps[3]?.getD undef = .pointer (some ⟨(w.heap.size + 1), 0, none⟩) := by have h := h3; simp only [Act.eval, Array.getD_eq_getD_getElem?] at h; exact h
      exact ⟨.pointer (some ⟨(w.heap.size + 1), 0, none⟩), by simp [go_sem, g3], by rw [hGs]; rfl⟩
    · refine Flow.step_valR rfl (fun _ _ _ _ => ⟨fun h => by omega, fun h => by omega⟩) fun a W hb hI hd => ?_
      have h20 : a.eval (.tmp 20) = .pointer (some ⟨(w.heap.size + 1), 0, none⟩) := by have h := hd _ (Array.mem_of_getElem? (i := 0) rfl) rfl; rw [hGs] at h; exact h
      exact ⟨_, run_load1 h20 (by have h := (C1.ext hI).cell 0; exact h), by rw [hGs]; rfl⟩
    · refine Flow.step_valR rfl (fun _ _ _ _ => ⟨fun h => by omega, fun h => by omega⟩) fun a W hb hI hd => ?_
      have h19 : a.eval (.tmp 19) = .bool (decide (i < 0)) := by have h := hd _ (Array.mem_of_getElem? (i := 0) rfl) rfl; rw [hGs] at h; exact h
      have h21 : a.eval (.tmp 21) = .bool false := by have h := hd _ (Array.mem_of_getElem? (i := 1) rfl) rfl; rw [hGs] at h; exact h
      exact ⟨_, run_neq_false h19 h21, by rw [hGs]; rfl⟩
    · refine Flow.step_valR rfl (fun _ _ _ _ => ⟨fun h => by omega, fun h => by omega⟩) fun a W hb hI hd => ?_
      have h6 : a.eval (.tmp 6) = q := hb.pre' 6 (by kernel_rfl)
      exact ⟨_, rfl, by rw [hGs]; exact h6⟩
    · refine Flow.step_callR rfl (fun _ _ _ _ => ⟨fun h => by omega, fun h => by omega⟩) fun a W hb hI hd => ?_
      have h22 : a.eval (.tmp 22) = .bool (decide (i < 0)) := by have h := hd _ (Array.mem_of_getElem? (i := 0) rfl) rfl; rw [hGs] at h; exact h
      have h23 : a.eval (.tmp 23) = q := by have h := hd _ (Array.mem_of_getElem? (i := 1) rfl) rfl; rw [hGs] at h; exact h
      refine ⟨110, #[a.eval (.tmp 22), a.eval (.tmp 23)], Flow.run_enter (enters_of Tryz.func110 (by kernel_rfl) rfl) (by simp), ?_⟩
      rw [h22, h23]
      have hc := made_any (decide (i < 0)) _ _ W (hq.ext hI)
      rw [decide_pos_limbs] at hc
      refine hc.mono ?_
      rintro e w' ⟨rfl, hE⟩
      exact ⟨_, rfl, by rw [hGs]; rfl, hI.tr hE, hst.at hE⟩
    · refine Flow.step_valR rfl (fun _ _ _ _ => ⟨fun h => by omega, fun h => by omega⟩) fun a W hb hI hd => ?_
      have h2 : a.eval (.tmp 2) = .pointer (some ⟨w.heap.size, 0, none⟩) := hb.pre' 2 (by kernel_rfl)
      have g2 : a.tmps[2]?.getD undef = .pointer (some ⟨w.heap.size, 0, none⟩) := by have h := h2; simp only [Act.eval, Array.getD_eq_getD_getElem?] at h; exact h
      exact ⟨.pointer (some ⟨w.heap.size, 0, none⟩), by simp [go_sem, g2], by rw [hGs]; rfl⟩
    · refine Flow.step_valR rfl (fun _ _ _ _ => ⟨fun h => by omega, fun h => by omega⟩) fun a W hb hI hd => ?_
      have h25 : a.eval (.tmp 25) = .pointer (some ⟨w.heap.size, 0, none⟩) := by have h := hd _ (Array.mem_of_getElem? (i := 0) rfl) rfl; rw [hGs] at h; exact h
      exact ⟨_, run_load1 h25 (by have h := (C0.ext hI).cell 0; exact h), by rw [hGs]; rfl⟩
    · refine Flow.step_valR rfl (fun _ _ _ _ => ⟨fun h => by omega, fun h => by omega⟩) fun a W hb hI hd => ?_
      have h7 : a.eval (.tmp 7) = r := hb.pre' 7 (by kernel_rfl)
      exact ⟨_, rfl, by rw [hGs]; exact h7⟩
    · refine Flow.step_callR rfl (fun _ _ _ _ => ⟨fun h => by omega, fun h => by omega⟩) fun a W hb hI hd => ?_
      have h26 : a.eval (.tmp 26) = .bool (decide (i < 0)) := by have h := hd _ (Array.mem_of_getElem? (i := 0) rfl) rfl; rw [hGs] at h; exact h
      have h27 : a.eval (.tmp 27) = r := by have h := hd _ (Array.mem_of_getElem? (i := 1) rfl) rfl; rw [hGs] at h; exact h
      refine ⟨110, #[a.eval (.tmp 26), a.eval (.tmp 27)], Flow.run_enter (enters_of Tryz.func110 (by kernel_rfl) rfl) (by simp), ?_⟩
      rw [h26, h27]
      have hc := made_any (decide (i < 0)) _ _ W (hr.ext hI)
      rw [decide_pos_limbs] at hc
      refine hc.mono ?_
      rintro e w' ⟨rfl, hE⟩
      exact ⟨_, rfl, by rw [hGs]; rfl, hI.tr hE, hst.at hE⟩
    · refine Flow.step_toR rfl fun a W hb hI hd => ?_
      refine ⟨_, _, run_alloc110, by rw [hGs]; exact ⟨W.heap.size, rfl, by have := hI.size; omega, Blk.new _ _ _⟩, hI.tr ((Below.refl _ _).alloc (Nat.le_refl _) _), hst.at ((Below.refl _ _).alloc (Nat.le_refl _) _), ?_⟩
      intro j hj hji u hu
      have key : j = 12 → Value.pointer (some ⟨W.heap.size, 0, none⟩) ≠ u := by
        intro hj; subst hj; rw [hGs] at hu
        obtain ⟨g, rfl, _, hB⟩ := hu
        intro e; injection e with e; injection e with e; injection e with e; have := hB.lt; omega
      exact ⟨fun h => by rcases h with ⟨h1, h2⟩ | ⟨h1, h2⟩ <;> first | exact key h2 | omega, fun h => by rcases h with ⟨h1, h2⟩ | ⟨h1, h2⟩ <;> first | exact fun e => key h1 e.symm | exact fun e => key h2 e.symm | omega⟩
    · refine Flow.step_toR rfl fun a W hb hI hd => ?_
      refine ⟨_, _, run_alloc110, by rw [hGs]; exact ⟨W.heap.size, rfl, by have := hI.size; omega, Blk.new _ _ _⟩, hI.tr ((Below.refl _ _).alloc (Nat.le_refl _) _), hst.at ((Below.refl _ _).alloc (Nat.le_refl _) _), ?_⟩
      intro j hj hji u hu
      have key : j = 11 → Value.pointer (some ⟨W.heap.size, 0, none⟩) ≠ u := by
        intro hj; subst hj; rw [hGs] at hu
        obtain ⟨g, rfl, _, hB⟩ := hu
        intro e; injection e with e; injection e with e; injection e with e; have := hB.lt; omega
      exact ⟨fun h => by rcases h with ⟨h1, h2⟩ | ⟨h1, h2⟩ <;> first | exact key h2 | omega, fun h => by rcases h with ⟨h1, h2⟩ | ⟨h1, h2⟩ <;> first | exact fun e => key h1 e.symm | exact fun e => key h2 e.symm | omega⟩
  case flowend =>
    rw [hGs]
    refine fun W hI v0 h0 v1 h1 v2 h2 v3 h3 v4 h4 v5 h5 v6 h6 v7 h7 v8 h8 v9 h9 v10 h10 v11 h11 v12 h12 hR => ?_
    obtain rfl : .pointer (some ⟨w.heap.size, 0, none⟩) = v0 := Eq.symm h0; clear h0
    obtain rfl : .bool (decide (i < 0)) = v1 := Eq.symm h1; clear h1
    obtain rfl : .pointer (some ⟨(w.heap.size + 1), 0, none⟩) = v2 := Eq.symm h2; clear h2
    obtain rfl : .bool false = v3 := Eq.symm h3; clear h3
    obtain rfl : .bool (decide (i < 0)) = v4 := Eq.symm h4; clear h4
    obtain rfl : q = v5 := Eq.symm h5; clear h5
    replace h6 : (fun v W => v = .agg #[.bool (decide (i < 0) && decide (i.natAbs / j.natAbs ≠ 0)), q]) v6 W := h6
    obtain rfl : .pointer (some ⟨w.heap.size, 0, none⟩) = v7 := Eq.symm h7; clear h7
    obtain rfl : .bool (decide (i < 0)) = v8 := Eq.symm h8; clear h8
    obtain rfl : r = v9 := Eq.symm h9; clear h9
    replace h10 : (fun v W => v = .agg #[.bool (decide (i < 0) && decide (i.natAbs % j.natAbs ≠ 0)), r]) v10 W := h10
    replace h11 : (fun v W => ∃ g, v = .pointer (some ⟨g, 0, none⟩) ∧ w1.heap.size ≤ g ∧ Blk W g 110 #[.bool false, .slice none 0 0]) v11 W := h11
    replace h12 : (fun v W => ∃ g, v = .pointer (some ⟨g, 0, none⟩) ∧ w1.heap.size ≤ g ∧ Blk W g 110 #[.bool false, .slice none 0 0]) v12 W := h12
    clear hst hGs
    show wpList _ _ _ _ _ _
    simp only [List.drop_succ_cons, List.drop_zero, Act.put, List.setIfInBounds_toArray, List.set_cons_zero, List.set_cons_succ]
    have hne : v11 ≠ v12 := Eq.mp (by kernel_rfl) (hR 11 12 (by decide) (by decide) (by decide) (.inl ⟨rfl, rfl⟩))
    obtain ⟨g8, hv8, hg8, D8⟩ := h11
    obtain ⟨g9, hv9, hg9, D9⟩ := h12
    obtain rfl : v6 = _ := h6
    obtain rfl : v10 = _ := h10
    subst hv8
    subst hv9
    have hg89 : g8 ≠ g9 := fun e => hne (by rw [e])
    have hq2 := hq.ext hI
    have hr2 := hr.ext hI
    clear hne hR
    obtain ⟨sq, hsq⟩ : ∃ b : Bool, (decide (i < 0) && decide (i.natAbs / j.natAbs ≠ 0)) = b := ⟨_, rfl⟩
    obtain ⟨sr, hsr⟩ : ∃ b : Bool, (decide (i < 0) && decide (i.natAbs % j.natAbs ≠ 0)) = b := ⟨_, rfl⟩
    obtain ⟨si, hsi'⟩ : ∃ b : Bool, decide (i < 0) = b := ⟨_, rfl⟩
    have C0 := C0.ext hI
    have C1 := C1.ext hI
    have C2 := C2.ext hI
    have C3 := C3.ext hI
    have E0W : Ext w W := (E1.tr E2).tr hI
    have hbW := hbi.ext E0W
    have l3 := C3.lt
    have n8 : g8 ≠ w.heap.size ∧ g8 ≠ w.heap.size + 1 ∧ g8 ≠ w.heap.size + 2 ∧ g8 ≠ w.heap.size + 3 := by
      have := B3.lt; omega
    have n9 : g9 ≠ w.heap.size ∧ g9 ≠ w.heap.size + 1 ∧ g9 ≠ w.heap.size + 2 ∧ g9 ≠ w.heap.size + 3 := by
      have := B3.lt; omega
    rw [hsq, hsr, hsi']
    rw [hsi'] at C0
    have HQ := hide (IsInt.tdiv hj hq2)
    have HR := hide (IsInt.tmod hj hr2)
    rw [hsq] at HQ
    rw [hsr] at HR
    clear hsq hsr B0 B1 B2 B3
    obtain ⟨Ar, capr, rfl, hcr, hlr, hzr, hrr⟩ := hr2
    have hb1 : w.heap.size ≤ g8 := Nat.le_trans E1.size hg8
    have hb2 : w.heap.size ≤ g9 := Nat.le_trans E1.size hg9
    have X := fun x y u v => put4 D8 D9 hg89 hb1 hb2 x y u v (E := E0W)
    have st1 := st_any hq.one
    have c0 := D8.cell 0
    have c1 := D8.cell 1
    have f0 := D8.frozen 0
    have f1 := D8.frozen 1
    have d0 := D9.cell 0
    have d1 := D9.cell 1
    have e0 := D9.frozen 0
    have e1 := D9.frozen 1
    simp at c0 c1 d0 d1
    obtain ⟨n81, n82, n83, n84⟩ := n8
    obtain ⟨n91, n92, n93, n94⟩ := n9
    have a0 := C0.cell 0
    have a1 := C1.cell 0
    simp at a0 a1
    have m1 := Ne.symm n81
    have m2 := Ne.symm n82
    have m3 := Ne.symm n91
    have m4 := Ne.symm n92
    obtain ⟨W4, hW4, D8, D9, E4, K4, M4, B4, S4⟩ := X (.bool sq) q (.bool sr) (.slice Ar (limbs (i.natAbs % j.natAbs)).length capr)
    have C1' := B4 _ _ _ m2 m4 C1
    have C2' := B4 _ _ _ (Ne.symm n83) (Ne.symm n93) C2
    have C3' := B4 _ _ _ (Ne.symm n84) (Ne.symm n94) C3
    have HQ := hide (K4 _ _ HQ.out)
    have HR := hide (K4 _ _ HR.out)
    have hb4 := K4 _ _ hbW
    have HW := hide hW4
    have HSi := hide hsi'
    clear X K4 M4 B4 hW4 hsi'
    by_cases hr0 : 0 < (limbs (i.natAbs % j.natAbs)).length
    · have hr1 : decide (((limbs (i.natAbs % j.natAbs)).length : Int) > 0) = true := by simp; exact hr0
      have HLQ := hide (show (limbs (i.tdiv j).natAbs).length ≤ 17592186044416 from Nat.le_trans (limbs_length_mono (by rw [tdiv_abs]; exact Nat.div_le_self _ _)) hsi)
      have HLR := hide (show (limbs (i.tmod j).natAbs).length ≤ 17592186044416 from Nat.le_trans (limbs_length_mono (by rw [tmod_abs]; exact Nat.mod_le _ _)) hsi)
      cases si
      · go_wp2_with fail
        rw [HW.out]
        clear c0 c1 d0 d1 e0 e1 f0 f1 a0 a1
        have C2 : Blk W4 (w.heap.size + 1 + 1) 110 #[.bool false, .slice none 0 0] := C2'
        have C3 : Blk W4 (w.heap.size + 1 + 1 + 1) 110 #[.bool false, .slice none 0 0] := C3'
        have hne : w.heap.size + 1 + 1 ≠ w.heap.size + 1 + 1 + 1 := by omega
        have a0 := D8.cell 0
        have a1 := D8.cell 1
        have b0 := D9.cell 0
        have b1 := D9.cell 1
        simp at a0 a1 b0 b1
        have c0 := C2.cell 0
        have c1 := C2.cell 1
        have d0 := C3.cell 0
        have d1 := C3.cell 1
        have f0 := C2.frozen 0
        have f1 := C2.frozen 1
        have e0 := C3.frozen 0
        have e1 := C3.frozen 1
        simp only [Array.getElem?_eq_getElem, List.getElem_toArray, List.size_toArray, List.length_cons, List.length_nil, Nat.lt_add_one, Nat.zero_lt_succ, Nat.zero_add] at c0 c1 d0 d1
        have HL := hide (show 0 ≤ i ∨ i.natAbs % j.natAbs = 0 from .inl (by have h := HSi.out; simpa using h))
        go_region
        go_wp2
        obtain ⟨W7, hW7, F2, F3, E7, K7, M7, B7, S7⟩ := put4 C2 C3 (by omega) (by omega) (by omega) (.bool sq) q (.bool sr) (.slice Ar (limbs (i.natAbs % j.natAbs)).length capr) (E := E4)
        obtain ⟨k1, k2⟩ := ediv_of_t hj HL.out
        have hq7 := K7 _ _ (HQ.out)
        have hr7 := K7 _ _ (HR.out)
        rw [k1] at hq7
        rw [k2] at hr7
        rw [hW7]
        refine bodyPost_ret (results_cell2 rfl rfl rfl F2.drew F3.drew) rfl ⟨_, _, rfl, hq7.ext (Ext.rfl' W7).drew, hr7.ext (Ext.rfl' W7).drew, E7.drew⟩
      · go_wp2_with fail
        rw [HW.out]
        clear c0 c1 d0 d1 e0 e1 f0 f1 a0 a1
        obtain ⟨Gs, hGs⟩ : ∃ Gs : List (Value → World → Prop), Gs = [(fun v _ => v = .agg #[.bool sq, q]), (fun v W => IsInt W v (1)), (fun v W => IsInt W v (i.tdiv j - 1)), (fun v _ => v = .agg #[.bool sr, .slice Ar (limbs (i.natAbs % j.natAbs)).length capr]), (fun v _ => v = .agg #[.bool false, t]), (fun v W => IsInt W v (i.tmod j + j))] := ⟨_, rfl⟩
        have hst : Flow.Stay Ext Gs := by rw [hGs]; exact (Flow.Stay.cons (fun _ _ _ _ h => h) (Flow.Stay.cons (fun _ _ E _ h => IsInt.ext h E) (Flow.Stay.cons (fun _ _ E _ h => IsInt.ext h E) (Flow.Stay.cons (fun _ _ _ _ h => h) (Flow.Stay.cons (fun _ _ _ _ h => h) (Flow.Stay.cons (fun _ _ E _ h => IsInt.ext h E) Flow.Stay.nil))))))
        refine Flow.wp_region_flow 6 (by kernel_rfl) (fun W => Ext W4 W) Gs (by kernel_rfl) (Ext.rfl' W4).drew ?flowsteps ?flowend
        case flowsteps =>
          refine ⟨?_, ?_, ?_, ?_, ?_, ?_, trivial⟩
          · refine Flow.step_val rfl fun a W hb hI hd => ?_
            have h8 : a.eval (.tmp 8) = .pointer (some ⟨g8, 0, none⟩) := hb.pre' 8 (by kernel_rfl)
            exact ⟨_, run_load2 h8 (by have h := (D8.ext hI).cell 0; exact h) (by have h := (D8.ext hI).cell 1; exact h), by rw [hGs]; rfl⟩
          · refine Flow.step_call rfl fun a W hb hI hd => ?_
            refine ⟨60, #[a.eval (.const (Go.Value.int Go.IntKind.i64 1))], Flow.run_enter (enters_of Tryz.func60 (by kernel_rfl) rfl) (by simp), ?_⟩
            rw [BigFrame.eval_const]
            refine (of_any 1 W (by decide) (by decide)).mono ?_
            rintro e w' ⟨v, rfl, hm, hE⟩
            exact ⟨v, rfl, by rw [hGs]; exact hm, hI.tr hE, hst.at hE⟩
          · refine Flow.step_call rfl fun a W hb hI hd => ?_
            have h39 : a.eval (.tmp 39) = .agg #[.bool sq, q] := by have h := hd _ (Array.mem_of_getElem? (i := 0) rfl) rfl; rw [hGs] at h; exact h
            have h40 : (fun v W => IsInt W v (1)) (a.eval (.tmp 40)) W := by have h := hd _ (Array.mem_of_getElem? (i := 1) rfl) rfl; rw [hGs] at h; exact h
            refine ⟨115, #[a.eval (.tmp 39), a.eval (.tmp 40)], Flow.run_enter (enters_of Tryz.func115 (by kernel_rfl) rfl) (by simp), ?_⟩
            rw [h39]
            refine (sub_any _ _ _ _ W (HQ.out.ext hI) h40 (by have := HLQ.out; omega) one_len).mono ?_
            rintro e w' ⟨v, rfl, hm, hE⟩
            exact ⟨v, rfl, by rw [hGs]; exact hm, hI.tr hE, hst.at hE⟩
          · refine Flow.step_val rfl fun a W hb hI hd => ?_
            have h9 : a.eval (.tmp 9) = .pointer (some ⟨g9, 0, none⟩) := hb.pre' 9 (by kernel_rfl)
            exact ⟨_, run_load2 h9 (by have h := (D9.ext hI).cell 0; exact h) (by have h := (D9.ext hI).cell 1; exact h), by rw [hGs]; rfl⟩
          · refine Flow.step_val rfl fun a W hb hI hd => ?_
            have h3 : a.eval (.tmp 3) = .pointer (some ⟨(w.heap.size + 1), 0, none⟩) := hb.pre' 3 (by kernel_rfl)
            exact ⟨_, run_load2 h3 (by have h := (C1'.ext hI).cell 0; exact h) (by have h := (C1'.ext hI).cell 1; exact h), by rw [hGs]; rfl⟩
          · refine Flow.step_call rfl fun a W hb hI hd => ?_
            have h42 : a.eval (.tmp 42) = .agg #[.bool sr, .slice Ar (limbs (i.natAbs % j.natAbs)).length capr] := by have h := hd _ (Array.mem_of_getElem? (i := 0) rfl) rfl; rw [hGs] at h; exact h
            have h43 : a.eval (.tmp 43) = .agg #[.bool false, t] := by have h := hd _ (Array.mem_of_getElem? (i := 1) rfl) rfl; rw [hGs] at h; exact h
            refine ⟨116, #[a.eval (.tmp 42), a.eval (.tmp 43)], Flow.run_enter (enters_of Tryz.func116 (by kernel_rfl) rfl) (by simp), ?_⟩
            rw [h42, h43]
            refine (add_any _ _ _ _ W (HR.out.ext hI) (hb4.ext hI) (by have := HLR.out; omega) (by omega)).mono ?_
            rintro e w' ⟨v, rfl, hm, hE⟩
            exact ⟨v, rfl, by rw [hGs]; exact hm, hI.tr hE, hst.at hE⟩
        case flowend =>
          rw [hGs]
          refine fun W hI v0 h0 v1 h1 v2 h2 v3 h3 v4 h4 v5 h5 => ?_
          obtain rfl : .agg #[.bool sq, q] = v0 := Eq.symm h0; clear h0
          replace h1 : (fun v W => IsInt W v (1)) v1 W := h1
          replace h2 : (fun v W => IsInt W v (i.tdiv j - 1)) v2 W := h2
          obtain rfl : .agg #[.bool sr, .slice Ar (limbs (i.natAbs % j.natAbs)).length capr] = v3 := Eq.symm h3; clear h3
          obtain rfl : .agg #[.bool false, t] = v4 := Eq.symm h4; clear h4
          replace h5 : (fun v W => IsInt W v (i.tmod j + j)) v5 W := h5
          clear hst hGs
          show wpList _ _ _ _ _ _
          simp only [List.drop_succ_cons, List.drop_zero, Act.put, List.setIfInBounds_toArray, List.set_cons_zero, List.set_cons_succ]
          obtain ⟨q', rfl, hq'⟩ := h2
          obtain ⟨r', rfl, hr'⟩ := h5
          have D8 := D8.ext hI
          have D9 := D9.ext hI
          have a0 := D8.cell 0
          have a1 := D8.cell 1
          have b0 := D9.cell 0
          have b1 := D9.cell 1
          have f0 := D8.frozen 0
          have f1 := D8.frozen 1
          have e0 := D9.frozen 0
          have e1 := D9.frozen 1
          have s1 := st_any hq'.one
          have s2 := st_any hr'.one
          obtain ⟨bq, hbq⟩ : ∃ b : Bool, decide (i.tdiv j - 1 < 0) = b := ⟨_, rfl⟩
          obtain ⟨br, hbr⟩ : ∃ b : Bool, decide (i.tmod j + j < 0) = b := ⟨_, rfl⟩
          rw [hbq, hbr]
          have HBQ := hide hbq
          have HBR := hide hbr
          have HQ' := hide hq'
          have HR' := hide hr'
          clear hbq hbr hq' hr'
          simp at a0 a1 b0 b1
          have C2 := C2'.ext hI
          have C3 := C3'.ext hI
          have hL := C3.lt
          obtain ⟨W5, hW5, D8, D9, E5, K5, M5, B5, S5⟩ := put4 D8 D9 hg89 hb1 hb2 (.bool bq) q' (.bool br) r' (E := E4.tr hI)
          go_wp2_with fail
          try rw [hW5]
          clear hW5 a0 a1 b0 b1 f0 f1 e0 e1
          have C2 : Blk W5 (w.heap.size + 1 + 1) 110 #[.bool false, .slice none 0 0] := B5 _ _ _ (Ne.symm n83) (Ne.symm n93) C2
          have C3 : Blk W5 (w.heap.size + 1 + 1 + 1) 110 #[.bool false, .slice none 0 0] := B5 _ _ _ (Ne.symm n84) (Ne.symm n94) C3
          have hne : w.heap.size + 1 + 1 ≠ w.heap.size + 1 + 1 + 1 := by omega
          have a0 := D8.cell 0
          have a1 := D8.cell 1
          have b0 := D9.cell 0
          have b1 := D9.cell 1
          simp at a0 a1 b0 b1
          have c0 := C2.cell 0
          have c1 := C2.cell 1
          have d0 := C3.cell 0
          have d1 := C3.cell 1
          have f0 := C2.frozen 0
          have f1 := C2.frozen 1
          have e0 := C3.frozen 0
          have e1 := C3.frozen 1
          simp only [Array.getElem?_eq_getElem, List.getElem_toArray, List.size_toArray, List.length_cons, List.length_nil, Nat.lt_add_one, Nat.zero_lt_succ, Nat.zero_add] at c0 c1 d0 d1
          have HL := hide (show i < 0 from by have h := HSi.out; simpa using h)
          have HL2 := hide (show i.natAbs % j.natAbs ≠ 0 from fun h => by rw [h, limbs_eq_nil.2 rfl] at hr0; exact absurd hr0 (by decide))
          go_region
          go_wp2
          obtain ⟨W7, hW7, F2, F3, E7, K7, M7, B7, S7⟩ := put4 C2 C3 (by omega) (by omega) (by omega) (.bool bq) q' (.bool br) r' (E := E5)
          obtain ⟨k1, k2⟩ := ediv_of_f hj HL.out HL2.out
          have hq7 := K7 _ _ (K5 _ _ (show IsInt _ (.agg #[.bool bq, q']) _ from ⟨q', by rw [HBQ.out], HQ'.out⟩))
          have hr7 := K7 _ _ (K5 _ _ (show IsInt _ (.agg #[.bool br, r']) _ from ⟨r', by rw [HBR.out], HR'.out⟩))
          rw [k1] at hq7
          rw [k2] at hr7
          rw [hW7]
          refine bodyPost_ret (results_cell2 rfl rfl rfl F2.drew F3.drew) rfl ⟨_, _, rfl, hq7.ext (Ext.rfl' W7).drew, hr7.ext (Ext.rfl' W7).drew, E7.drew⟩
    · have hr1 : decide (((limbs (i.natAbs % j.natAbs)).length : Int) > 0) = false := by simpa using hr0
      go_wp2_with fail
      rw [HW.out]
      clear c0 c1 d0 d1 e0 e1 f0 f1 a0 a1
      have C2 : Blk W4 (w.heap.size + 1 + 1) 110 #[.bool false, .slice none 0 0] := C2'
      have C3 : Blk W4 (w.heap.size + 1 + 1 + 1) 110 #[.bool false, .slice none 0 0] := C3'
      have hne : w.heap.size + 1 + 1 ≠ w.heap.size + 1 + 1 + 1 := by omega
      have a0 := D8.cell 0
      have a1 := D8.cell 1
      have b0 := D9.cell 0
      have b1 := D9.cell 1
      simp at a0 a1 b0 b1
      have c0 := C2.cell 0
      have c1 := C2.cell 1
      have d0 := C3.cell 0
      have d1 := C3.cell 1
      have f0 := C2.frozen 0
      have f1 := C2.frozen 1
      have e0 := C3.frozen 0
      have e1 := C3.frozen 1
      simp only [Array.getElem?_eq_getElem, List.getElem_toArray, List.size_toArray, List.length_cons, List.length_nil, Nat.lt_add_one, Nat.zero_lt_succ, Nat.zero_add] at c0 c1 d0 d1
      have HL := hide (show 0 ≤ i ∨ i.natAbs % j.natAbs = 0 from .inr (limbs_eq_nil.1 (List.length_eq_zero_iff.1 (by omega))))
      go_region
      go_wp2
      obtain ⟨W7, hW7, F2, F3, E7, K7, M7, B7, S7⟩ := put4 C2 C3 (by omega) (by omega) (by omega) (.bool sq) q (.bool sr) (.slice Ar (limbs (i.natAbs % j.natAbs)).length capr) (E := E4)
      obtain ⟨k1, k2⟩ := ediv_of_t hj HL.out
      have hq7 := K7 _ _ (HQ.out)
      have hr7 := K7 _ _ (HR.out)
      rw [k1] at hq7
      rw [k2] at hr7
      rw [hW7]
      refine bodyPost_ret (results_cell2 rfl rfl rfl F2.drew F3.drew) rfl ⟨_, _, rfl, hq7.ext (Ext.rfl' W7).drew, hr7.ext (Ext.rfl' W7).drew, E7.drew⟩

end Go.Proofs.YtncabodphjkkfaaGreat
