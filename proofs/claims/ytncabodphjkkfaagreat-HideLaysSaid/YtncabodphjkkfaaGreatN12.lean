/- Fractions: made of integers, their parts, their sign. Conditions: none. -/
import Derived.Test.YtncabodphjkkfaaGreatN11
namespace Go.Proofs.YtncabodphjkkfaaGreat
open Go.RowKit Go.Limbs Go.Shelf

/-- A fraction stored in a block of its own. -/
theorem put_rat {w0 W : World} {g : Nat} {a b c d : Value} (hB : Blk W g 113 #[a, b, c, d]) (hg : w0.heap.size ≤ g) (E : Ext w0 W) (x y z u : Value) :
    ∃ W', ((((W.setCell ⟨g, 0, none⟩ x).setCell ⟨g, 1, none⟩ y).setCell ⟨g, 2, none⟩ z).setCell ⟨g, 3, none⟩ u) = W' ∧ Blk W' g 113 #[x, y, z, u] ∧ Ext w0 W' ∧ (∀ v q, IsRat W v q → IsRat W' v q) := by
  have h1 := hB.set_ 0 x
  have h2 := h1.set_ 1 y
  have h3 := h2.set_ 2 z
  have h4 := h3.set_ 3 u
  exact ⟨_, rfl, h4, (((E.setCell (p := ⟨g, 0, none⟩) hg _).setCell (p := ⟨g, 1, none⟩) hg _).setCell (p := ⟨g, 2, none⟩) hg _).setCell (p := ⟨g, 3, none⟩) hg _, fun v q h =>
    (((h.store (p := ⟨g, 0, none⟩) hB.ty (by decide) _).store (p := ⟨g, 1, none⟩) h1.ty (by decide) _).store (p := ⟨g, 2, none⟩) h2.ty (by decide) _).store (p := ⟨g, 3, none⟩) h3.ty (by decide) _⟩

theorem end_rat {fn : Func} {d : Tmp} {a : Act} {w W : World} {g : Nat} {x y z u : Value} {R : Ending → World → Prop} {s t : Value} {b c : Bool} {q : Rat} (hr : fn.results = #[.cell d 113])
    (ht : a.tmps.getD d undef = .pointer (some ⟨g, 0, none⟩)) (hd : a.defers = []) (hB : Blk W g 113 #[x, y, z, u]) (hE : Ext w W) (hg : w.heap.size ≤ g) (hm : IsRat W (.agg #[.bool b, s, .bool c, t]) q)
    (hR : ∀ v W', IsRat W' v q → Ext w W' → R (.returned v) W') :
    bodyPost Tryz.prog fn R .ret a ((((W.setCell ⟨g, 0, none⟩ (.bool b)).setCell ⟨g, 1, none⟩ s).setCell ⟨g, 2, none⟩ (.bool c)).setCell ⟨g, 3, none⟩ t) := by
  obtain ⟨W', hW, hB', hE', hK⟩ := put_rat hB hg hE (.bool b) s (.bool c) t
  rw [hW]
  exact bodyPost_ret (res4_run hr ht hB') hd (hR _ _ (hK _ _ hm) hE')

theorem IsRat.unpack {W : World} {v : Value} {q : Rat} (h : IsRat W v q) : ∃ b s t, v = .agg #[.bool b, s, .bool false, t] ∧ s.oneCell' = true ∧ t.oneCell' = true ∧ Hid (IsRat W v q) := by
  have h' := h
  obtain ⟨s, t, hv, hs, ht⟩ := h
  exact ⟨_, s, t, hv, hs.one, ht.one, hide h'⟩

theorem run_build113 {W : World} {ρ : Operand → Value} {x y : Operand} {a b c d : Value} {dst : Option Tmp} {ty : TypeId} {pos : String} {after : Array Edge} {guard : Option (Nat × Bool)}
    (hx : ρ x = .agg #[a, b]) (hy : ρ y = .agg #[c, d]) : (execOp ρ { dst, op := .build 113 #[(0, x), (1, y)], type := ty, pos, after, guard }).run Tryz.prog W = .ok (.value (.agg #[a, b, c, d])) W := by
  simp [go_sem, execOp, hx, hy]

theorem IsRat.of_ints {W : World} {u v : Value} {q : Rat} (h : IsInt W u q.num) (k : IsInt W v q.den) : ∃ s t, u = .agg #[.bool (decide (q.num < 0)), s] ∧ v = .agg #[.bool false, t] ∧ IsRat W (.agg #[.bool (decide (q.num < 0)), s, .bool false, t]) q := by
  obtain ⟨s, rfl, hs⟩ := h
  obtain ⟨t, rfl, ht⟩ := k
  rw [Int.natAbs_natCast] at ht
  exact ⟨s, t, rfl, by rw [decide_eq_false (show ¬ ((q.den : Nat) : Int) < 0 by omega)], s, t, rfl, hs, ht⟩
theorem run_build_rat {W : World} {ρ : Operand → Value} {x y : Operand} {q : Rat} {dst : Option Tmp} {ty : TypeId} {pos : String} {after : Array Edge} {guard : Option (Nat × Bool)}
    (hx : IsInt W (ρ x) q.num) (hy : IsInt W (ρ y) q.den) : ∃ v, (execOp ρ { dst, op := .build 113 #[(0, x), (1, y)], type := ty, pos, after, guard }).run Tryz.prog W = .ok (.value v) W ∧ IsRat W v q := by
  obtain ⟨s, t, hu, hv, hr⟩ := IsRat.of_ints hx hy
  exact ⟨_, run_build113 hu hv, hr⟩
theorem IsRat.num {W : World} {s t : Value} {b c : Bool} {q : Rat} (h : IsRat W (.agg #[.bool b, s, .bool c, t]) q) : IsInt W (.agg #[.bool b, s]) q.num := by
  obtain ⟨s', t', hv, hs, ht⟩ := h
  injection hv with hv
  injection hv with hv
  injection hv with h1 hv
  injection hv with h2 hv
  injection hv with h3 hv
  injection hv with h4 hv
  rw [h1, h2]
  exact ⟨s', rfl, hs⟩
theorem IsRat.den {W : World} {s t : Value} {b c : Bool} {q : Rat} (h : IsRat W (.agg #[.bool b, s, .bool c, t]) q) : IsInt W (.agg #[.bool c, t]) q.den := by
  obtain ⟨s', t', hv, hs, ht⟩ := h
  injection hv with hv
  injection hv with hv
  injection hv with h1 hv
  injection hv with h2 hv
  injection hv with h3 hv
  injection hv with h4 hv
  rw [h3, h4]
  exact ⟨t', by rw [decide_eq_false (show ¬ ((q.den : Nat) : Int) < 0 by omega)], by rw [Int.natAbs_natCast]; exact ht⟩

set_option maxRecDepth 100000 in
set_option maxHeartbeats 1000000 in
theorem neg_rat (v : Value) (q : Rat) (w : World) (h : IsRat w v q) : Calls Tryz.prog 113 #[v] w fun e w' => ∃ u, e = .returned u ∧ IsRat w' u (-q) ∧ Ext w w' := by
  have hq := h
  obtain ⟨s, t, rfl, hs, ht⟩ := h
  go_enter Tryz.func113, Tryz.ntmps113
  go_wp2_with fail
  generalize hw1 : ((w.alloc _).alloc _) = w1
  have B0 : Blk w1 (w.heap.size) 113 #[.bool (decide (q.num < 0)), s, .bool false, t] := by rw [← hw1]; exact ((Blk.new' _ _ _ _ (by simp)).alloc _)
  have B1 : Blk w1 (w.heap.size + 1) 113 #[.bool false, .slice none 0 0, .bool false, .slice none 0 0] := by rw [← hw1]; exact (Blk.new' _ _ _ _ (by simp))
  have E1 : Ext w w1 := by rw [← hw1]; exact (((Below.refl _ _).alloc (Nat.le_refl _) _).alloc (by simp <;> omega) _)
  clear hw1
  have hq1 := hq.ext E1
  obtain ⟨Gs, hGs⟩ : ∃ Gs : List (Value → World → Prop), Gs = [(fun v _ => v = .pointer (some ⟨w.heap.size, 0, none⟩)), (fun v _ => v = .agg #[.bool (decide (q.num < 0)), s]), (fun v W => IsInt W v (-q.num)), (fun v _ => v = .pointer (some ⟨w.heap.size, 2, none⟩)), (fun v _ => v = .agg #[.bool false, t]), (fun v W => IsRat W v (-q))] := ⟨_, rfl⟩
  have hst : Flow.Stay Ext Gs := by rw [hGs]; exact (Flow.Stay.cons (fun _ _ _ _ h => h) (Flow.Stay.cons (fun _ _ _ _ h => h) (Flow.Stay.cons (fun _ _ E _ h => IsInt.ext h E) (Flow.Stay.cons (fun _ _ _ _ h => h) (Flow.Stay.cons (fun _ _ _ _ h => h) (Flow.Stay.cons (fun _ _ E _ h => IsRat.ext h E) Flow.Stay.nil))))))
  refine Flow.wp_region_flow 6 (by kernel_rfl) (fun W => Ext w1 W) Gs (by kernel_rfl) (Ext.rfl' w1).drew ?flowsteps ?flowend
  case flowsteps =>
    refine ⟨?_, ?_, ?_, ?_, ?_, ?_, trivial⟩
    · refine Flow.step_val rfl fun a W hb hI hd => ?_
      have h1 : a.eval (.tmp 1) = .pointer (some ⟨w.heap.size, 0, none⟩) := hb.pre' 1 (by kernel_rfl)
      have g1 : a.tmps[1]?.getD undef = .pointer (some ⟨w.heap.size, 0, none⟩) := by have h := h1; simp only [Act.eval, Array.getD_eq_getD_getElem?] at h; exact h
      exact ⟨.pointer (some ⟨w.heap.size, 0, none⟩), by simp [go_sem, g1], by rw [hGs]; rfl⟩
    · refine Flow.step_val rfl fun a W hb hI hd => ?_
      have h3 : a.eval (.tmp 3) = .pointer (some ⟨w.heap.size, 0, none⟩) := by have h := hd _ (Array.mem_of_getElem? (i := 0) rfl) rfl; rw [hGs] at h; exact h
      exact ⟨_, run_load2 h3 (by have h := (B0.ext hI).cell 0; exact h) (by have h := (B0.ext hI).cell 1; exact h), by rw [hGs]; rfl⟩
    · refine Flow.step_call rfl fun a W hb hI hd => ?_
      have h4 : a.eval (.tmp 4) = .agg #[.bool (decide (q.num < 0)), s] := by have h := hd _ (Array.mem_of_getElem? (i := 0) rfl) rfl; rw [hGs] at h; exact h
      refine ⟨135, #[a.eval (.tmp 4)], Flow.run_enter (enters_of Tryz.func135 (by kernel_rfl) rfl) (by simp), ?_⟩
      rw [h4]
      refine (neg_any _ _ W (hq1.num.ext hI)).mono ?_
      rintro e w' ⟨v, rfl, hm, hE⟩
      exact ⟨v, rfl, by rw [hGs]; exact hm, hI.tr hE, hst.at hE⟩
    · refine Flow.step_val rfl fun a W hb hI hd => ?_
      have h1 : a.eval (.tmp 1) = .pointer (some ⟨w.heap.size, 0, none⟩) := hb.pre' 1 (by kernel_rfl)
      have g1 : a.tmps[1]?.getD undef = .pointer (some ⟨w.heap.size, 0, none⟩) := by have h := h1; simp only [Act.eval, Array.getD_eq_getD_getElem?] at h; exact h
      exact ⟨.pointer (some ⟨w.heap.size, 2, none⟩), by simp [go_sem, g1], by rw [hGs]; rfl⟩
    · refine Flow.step_val rfl fun a W hb hI hd => ?_
      have h6 : a.eval (.tmp 6) = .pointer (some ⟨w.heap.size, 2, none⟩) := by have h := hd _ (Array.mem_of_getElem? (i := 0) rfl) rfl; rw [hGs] at h; exact h
      exact ⟨_, run_load2 h6 (by have h := (B0.ext hI).cell 2; exact h) (by have h := (B0.ext hI).cell 3; exact h), by rw [hGs]; rfl⟩
    · refine Flow.step_val rfl fun a W hb hI hd => ?_
      have h5 : (fun v W => IsInt W v (-q.num)) (a.eval (.tmp 5)) W := by have h := hd _ (Array.mem_of_getElem? (i := 0) rfl) rfl; rw [hGs] at h; exact h
      have h7 : a.eval (.tmp 7) = .agg #[.bool false, t] := by have h := hd _ (Array.mem_of_getElem? (i := 1) rfl) rfl; rw [hGs] at h; exact h
      obtain ⟨v, hv, hr⟩ := run_build_rat (q := -q) (ρ := a.eval) (W := W) (x := .tmp 5) (y := .tmp 7) (by rw [Rat.neg_num]; exact h5) (by rw [Rat.neg_den, h7]; exact hq1.den.ext hI)
      exact ⟨v, hv, by rw [hGs]; exact hr⟩
  case flowend =>
    rw [hGs]
    refine fun W hI v0 h0 v1 h1 v2 h2 v3 h3 v4 h4 v5 h5 => ?_
    obtain rfl : .pointer (some ⟨w.heap.size, 0, none⟩) = v0 := Eq.symm h0; clear h0
    obtain rfl : .agg #[.bool (decide (q.num < 0)), s] = v1 := Eq.symm h1; clear h1
    replace h2 : (fun v W => IsInt W v (-q.num)) v2 W := h2
    obtain rfl : .pointer (some ⟨w.heap.size, 2, none⟩) = v3 := Eq.symm h3; clear h3
    obtain rfl : .agg #[.bool false, t] = v4 := Eq.symm h4; clear h4
    replace h5 : (fun v W => IsRat W v (-q)) v5 W := h5
    clear hst hGs
    show wpList _ _ _ _ _ _
    simp only [List.drop_succ_cons, List.drop_zero, Act.put, List.setIfInBounds_toArray, List.set_cons_zero, List.set_cons_succ]
    obtain ⟨bq, s', t', rfl, st1, st2, HR⟩ := h5.unpack
    clear h5
    replace st1 := st_any st1
    replace st2 := st_any st2
    have C := B1.ext hI
    have c0 := C.cell 0
    have c1 := C.cell 1
    have c2 := C.cell 2
    have c3 := C.cell 3
    have f0 := C.frozen 0
    have f1 := C.frozen 1
    have f2 := C.frozen 2
    have f3 := C.frozen 3
    simp at c0 c1 c2 c3
    go_wp2
    exact end_rat rfl rfl rfl C (E1.tr hI) (by omega) HR.out fun v W' h hE => ⟨_, rfl, h, hE⟩

theorem num_zero_or (n : Nat) : (limbs n).length = 1 → (n = 1 ↔ (limbs n).getD 0 0 = 1) := by
  intro h
  have h1 : limbs 1 = [1] := limbs_small (by decide) (by decide)
  constructor
  · intro e; rw [e, h1]; rfl
  · intro e
    have h2 : limbs n = [1] := by
      match hl : limbs n, h, e with
      | [x], _, e => exact congrArg (fun y => [y]) e
    rw [← val_limbs n, h2, ← h1, val_limbs]

set_option maxRecDepth 100000 in
set_option maxHeartbeats 1000000 in
theorem integer_any (v : Value) (q : Rat) (w : World) (h : IsRat w v q) : Calls Tryz.prog 118 #[v] w fun e w' => e = .returned (.bool (decide (q.den = 1))) ∧ Ext w w' := by
  obtain ⟨s, t, rfl, hs, ht⟩ := h
  obtain ⟨A, ca, rfl, hca, hma, hla, hra⟩ := ht
  obtain ⟨bq, hbq⟩ : ∃ b : Bool, decide (q.num < 0) = b := ⟨_, rfl⟩
  rw [hbq]
  have HT := hide (num_zero_or q.den)
  have E1 : Ext w (w.alloc (.cells #[.bool bq, s, .bool false, .slice A (limbs q.den).length ca] 113)) := (Below.refl _ _).alloc (Nat.le_refl _) _
  obtain ⟨L, hL⟩ : ∃ L, (limbs q.den).length = L := ⟨_, rfl⟩
  by_cases h1 : L = 1
  · subst h1
    obtain ⟨b, off, rfl, hb, hc⟩ := U32.at hra (k := 0) (by omega)
    have c0 := hc 0 (by omega)
    rw [Nat.add_zero] at c0
    have hbl := hb.lt
    obtain ⟨x, hx⟩ : ∃ x, (limbs q.den).getD 0 0 = x := ⟨_, rfl⟩
    have hd : decide (q.den = 1) = ((x : Int) == 1) := by
      have := HT.out hL
      rw [hx] at this
      rw [Bool.eq_iff_iff]
      simp [this]
      omega
    rw [hx] at c0
    rw [hd]
    rw [hL] at E1 ⊢
    have c1 : (w.alloc (.cells #[.bool bq, s, .bool false, .slice (some ⟨b, off, none⟩) 1 ca] 113)).cell? ⟨b, off, none⟩ = some (.int .u32 (x : Int)) := by
      rw [World.cell?_of_block (Below.heap_alloc w _ b hbl)]; exact c0
    clear hd hx hc hla hL hbq c0 hra
    go_enter Tryz.func118, Tryz.ntmps118
    go_wp2
    go_ret
    exact ⟨rfl, E1⟩
  · have hd : decide (q.den = 1) = false := by
      refine decide_eq_false fun e => h1 ?_
      rw [← hL, e, limbs_small (by decide) (by decide)]; rfl
    have e0 : ((L : Int) == 1) = false := by simp; omega
    rw [hd]
    rw [hL] at E1 ⊢
    clear hd hla hL hbq hra hma
    go_enter Tryz.func118, Tryz.ntmps118
    go_wp2
    go_ret
    exact ⟨rfl, E1⟩

set_option maxRecDepth 100000 in
set_option maxHeartbeats 1000000 in
theorem sign_rat (v : Value) (q : Rat) (w : World) (h : IsRat w v q) : Calls Tryz.prog 174 #[v] w fun e w' => e = .returned (.int .i64 q.num.sign) ∧ Ext w w' := by
  have hq := h
  obtain ⟨s, t, rfl, hs, ht⟩ := h
  obtain ⟨bq, hbq⟩ : ∃ b : Bool, decide (q.num < 0) = b := ⟨_, rfl⟩
  rw [hbq] at hq ⊢
  clear hbq
  go_enter Tryz.func174, Tryz.ntmps174
  go_wp2_with fail
  generalize hw1 : (w.alloc _) = w1
  have B0 : Blk w1 (w.heap.size) 113 #[.bool bq, s, .bool false, t] := by rw [← hw1]; exact (Blk.new' _ _ _ _ (by simp))
  have E1 : Ext w w1 := by rw [← hw1]; exact ((Below.refl _ _).alloc (Nat.le_refl _) _)
  clear hw1
  refine (sign_any _ _ w1 (hq.num.ext E1)).mono ?_
  rintro e w2 ⟨rfl, E2⟩
  go_wp2
  go_ret
  exact ⟨rfl, E1.tr E2⟩

set_option maxRecDepth 100000 in
set_option maxHeartbeats 1000000 in
theorem over_any (v : Value) (q : Rat) (w : World) (h : IsRat w v q) : Calls Tryz.prog 68 #[v] w fun e w' => ∃ u, e = .returned u ∧ IsInt w' u q.num ∧ Ext w w' := by
  have hq := h
  obtain ⟨s, t, rfl, hs, ht⟩ := h
  obtain ⟨bq, hbq⟩ : ∃ b : Bool, decide (q.num < 0) = b := ⟨_, rfl⟩
  rw [hbq] at hq ⊢
  have st1 := st_any hs.one
  have st2 := st_any ht.one
  go_enter Tryz.func68, Tryz.ntmps68
  go_wp2
  have E0 : Ext w (w.alloc (.cells #[.bool bq, s, .bool false, t] 113)) := (Below.refl _ _).alloc (Nat.le_refl _) _
  have E1 : Ext w ((w.alloc (.cells #[.bool bq, s, .bool false, t] 113)).alloc (.cells #[.bool bq, s] 110)) := E0.alloc (by simp) _
  have B0 : Blk ((w.alloc (.cells #[.bool bq, s, .bool false, t] 113)).alloc (.cells #[.bool bq, s] 110)) (w.heap.size + 1) 110 #[.bool bq, s] := Blk.new' _ _ _ _ (by simp)
  exact bodyPost_ret (res2_run rfl rfl B0) rfl ⟨_, rfl, hq.num.ext E1, E1⟩

set_option maxRecDepth 100000 in
set_option maxHeartbeats 1000000 in
theorem under_any (v : Value) (q : Rat) (w : World) (h : IsRat w v q) : Calls Tryz.prog 62 #[v] w fun e w' => ∃ u, e = .returned u ∧ IsInt w' u (q.den : Int) ∧ Ext w w' := by
  have hq := h
  obtain ⟨s, t, rfl, hs, ht⟩ := h
  obtain ⟨bq, hbq⟩ : ∃ b : Bool, decide (q.num < 0) = b := ⟨_, rfl⟩
  rw [hbq] at hq ⊢
  have st1 := st_any hs.one
  have st2 := st_any ht.one
  go_enter Tryz.func62, Tryz.ntmps62
  go_wp2
  have E0 : Ext w (w.alloc (.cells #[.bool bq, s, .bool false, t] 113)) := (Below.refl _ _).alloc (Nat.le_refl _) _
  have E1 : Ext w ((w.alloc (.cells #[.bool bq, s, .bool false, t] 113)).alloc (.cells #[.bool false, t] 110)) := E0.alloc (by simp) _
  have B0 : Blk ((w.alloc (.cells #[.bool bq, s, .bool false, t] 113)).alloc (.cells #[.bool false, t] 110)) (w.heap.size + 1) 110 #[.bool false, t] := Blk.new' _ _ _ _ (by simp)
  exact bodyPost_ret (res2_run rfl rfl B0) rfl ⟨_, rfl, hq.den.ext E1, E1⟩

set_option maxRecDepth 100000 in
set_option maxHeartbeats 1000000 in
theorem whole_any (i : Int) (w : World) (h : -9223372036854775808 ≤ i) (h' : i ≤ 9223372036854775807) : Calls Tryz.prog 107 #[.int .i64 i] w fun e w' => ∃ u, e = .returned u ∧ IsRat w' u (i : Rat) ∧ Ext w w' := by
  have H1 := hide h
  have H2 := hide h'
  clear h h'
  go_enter Tryz.func107, Tryz.ntmps107
  go_wp2_with fail
  generalize hw1 : (w.alloc _) = w1
  have B0 : Blk w1 (w.heap.size) 113 #[.bool false, .slice none 0 0, .bool false, .slice none 0 0] := by rw [← hw1]; exact (Blk.new' _ _ _ _ (by simp))
  have E1 : Ext w w1 := by rw [← hw1]; exact ((Below.refl _ _).alloc (Nat.le_refl _) _)
  clear hw1
  refine (of_any i w1 H1.out H2.out).mono ?_
  rintro e w2 ⟨u, rfl, hu, E2⟩
  have HU := hide hu
  clear hu
  go_wp2_with fail
  refine (of_any 1 w2 (by decide) (by decide)).mono ?_
  rintro e w3 ⟨u', rfl, hu', E3⟩
  obtain ⟨s', t', rfl, rfl, hr⟩ := IsRat.of_ints (q := (i : Rat)) (by rw [Rat.num_intCast]; exact HU.out.ext E3) (by rw [Rat.den_intCast]; exact hu')
  have hE := (E1.tr E2).tr E3
  obtain ⟨bq, s', t', hv, st1, st2, HR⟩ := hr.unpack
  rw [hv] at HR
  injection hv with hv
  injection hv with hv
  injection hv with hv1 hv
  injection hv with hv2 hv
  injection hv with hv3 hv
  injection hv with hv4 hv
  rw [hv1, hv2, hv4]
  clear hr hv1 hv2 hv3 hv4 hv
  replace st1 := st_any st1
  replace st2 := st_any st2
  have C := B0.ext (E2.tr E3)
  have c0 := C.cell 0
  have c1 := C.cell 1
  have c2 := C.cell 2
  have c3 := C.cell 3
  have f0 := C.frozen 0
  have f1 := C.frozen 1
  have f2 := C.frozen 2
  have f3 := C.frozen 3
  simp at c0 c1 c2 c3
  go_wp2
  exact end_rat rfl rfl rfl C hE (by omega) HR.out fun v W' h hE => ⟨_, rfl, h, hE⟩

set_option maxRecDepth 100000 in
set_option maxHeartbeats 1000000 in
theorem fromInt_any (v : Value) (i : Int) (w : World) (h : IsInt w v i) : Calls Tryz.prog 67 #[v] w fun e w' => ∃ u, e = .returned u ∧ IsRat w' u (i : Rat) ∧ Ext w w' := by
  have hi := h
  obtain ⟨s, rfl, hs⟩ := h
  go_enter Tryz.func67, Tryz.ntmps67
  go_wp2_with fail
  generalize hw1 : ((w.alloc _).alloc _) = w1
  have B0 : Blk w1 (w.heap.size) 110 #[.bool (decide (i < 0)), s] := by rw [← hw1]; exact ((Blk.new' _ _ _ _ (by simp)).alloc _)
  have B1 : Blk w1 (w.heap.size + 1) 113 #[.bool false, .slice none 0 0, .bool false, .slice none 0 0] := by rw [← hw1]; exact (Blk.new' _ _ _ _ (by simp))
  have E1 : Ext w w1 := by rw [← hw1]; exact (((Below.refl _ _).alloc (Nat.le_refl _) _).alloc (by simp <;> omega) _)
  clear hw1
  have hi1 := hi.ext E1
  obtain ⟨Gs, hGs⟩ : ∃ Gs : List (Value → World → Prop), Gs = [(fun v _ => v = .agg #[.bool (decide (i < 0)), s]), (fun v W => IsInt W v (1)), (fun v W => IsRat W v ((i : Rat)))] := ⟨_, rfl⟩
  have hst : Flow.Stay Ext Gs := by rw [hGs]; exact (Flow.Stay.cons (fun _ _ _ _ h => h) (Flow.Stay.cons (fun _ _ E _ h => IsInt.ext h E) (Flow.Stay.cons (fun _ _ E _ h => IsRat.ext h E) Flow.Stay.nil)))
  refine Flow.wp_region_flow 3 (by kernel_rfl) (fun W => Ext w1 W) Gs (by kernel_rfl) (Ext.rfl' w1).drew ?flowsteps ?flowend
  case flowsteps =>
    refine ⟨?_, ?_, ?_, trivial⟩
    · refine Flow.step_val rfl fun a W hb hI hd => ?_
      have h1 : a.eval (.tmp 1) = .pointer (some ⟨w.heap.size, 0, none⟩) := hb.pre' 1 (by kernel_rfl)
      exact ⟨_, run_load2 h1 (by have h := (B0.ext hI).cell 0; exact h) (by have h := (B0.ext hI).cell 1; exact h), by rw [hGs]; rfl⟩
    · refine Flow.step_call rfl fun a W hb hI hd => ?_
      refine ⟨60, #[a.eval (.const (Go.Value.int Go.IntKind.i64 1))], Flow.run_enter (enters_of Tryz.func60 (by kernel_rfl) rfl) (by simp), ?_⟩
      rw [BigFrame.eval_const]
      refine (of_any 1 W (by decide) (by decide)).mono ?_
      rintro e w' ⟨v, rfl, hm, hE⟩
      exact ⟨v, rfl, by rw [hGs]; exact hm, hI.tr hE, hst.at hE⟩
    · refine Flow.step_val rfl fun a W hb hI hd => ?_
      have h3 : a.eval (.tmp 3) = .agg #[.bool (decide (i < 0)), s] := by have h := hd _ (Array.mem_of_getElem? (i := 0) rfl) rfl; rw [hGs] at h; exact h
      have h4 : (fun v W => IsInt W v (1)) (a.eval (.tmp 4)) W := by have h := hd _ (Array.mem_of_getElem? (i := 1) rfl) rfl; rw [hGs] at h; exact h
      obtain ⟨v, hv, hr⟩ := run_build_rat (q := (i : Rat)) (ρ := a.eval) (W := W) (x := .tmp 3) (y := .tmp 4) (by rw [Rat.num_intCast, h3]; exact hi1.ext hI) (by rw [Rat.den_intCast]; exact h4)
      exact ⟨v, hv, by rw [hGs]; exact hr⟩
  case flowend =>
    rw [hGs]
    refine fun W hI v0 h0 v1 h1 v2 h2 => ?_
    obtain rfl : .agg #[.bool (decide (i < 0)), s] = v0 := Eq.symm h0; clear h0
    replace h1 : (fun v W => IsInt W v (1)) v1 W := h1
    replace h2 : (fun v W => IsRat W v ((i : Rat))) v2 W := h2
    clear hst hGs
    show wpList _ _ _ _ _ _
    simp only [List.drop_succ_cons, List.drop_zero, Act.put, List.setIfInBounds_toArray, List.set_cons_zero, List.set_cons_succ]
    obtain ⟨bq, s', t', rfl, st1, st2, HR⟩ := h2.unpack
    clear h2
    replace st1 := st_any st1
    replace st2 := st_any st2
    have C := B1.ext hI
    have c0 := C.cell 0
    have c1 := C.cell 1
    have c2 := C.cell 2
    have c3 := C.cell 3
    have f0 := C.frozen 0
    have f1 := C.frozen 1
    have f2 := C.frozen 2
    have f3 := C.frozen 3
    simp at c0 c1 c2 c3
    go_wp2
    exact end_rat rfl rfl rfl C (E1.tr hI) (by omega) HR.out fun v W' h hE => ⟨_, rfl, h, hE⟩

end Go.Proofs.YtncabodphjkkfaaGreat
