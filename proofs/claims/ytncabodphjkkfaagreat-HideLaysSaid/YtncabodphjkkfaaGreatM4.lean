/- A number added to an element of a matrix. Conditions: the fractions fit into a machine. -/
import Derived.Test.YtncabodphjkkfaaGreatM3
namespace Go.Proofs.YtncabodphjkkfaaGreat
open Go.RowKit Go.Limbs Go.Shelf

theorem IsRat.cells4 {W : World} {v : Value} {q : Rat} (h : IsRat W v q) : ∃ r0 r1 r2 r3, v = .agg #[r0, r1, r2, r3] ∧ Hid (IsRat W (R4.val (r0, r1, r2, r3)) q) ∧ r0.oneCell' = true ∧ r1.oneCell' = true ∧ r2.oneCell' = true ∧ r3.oneCell' = true := by
  obtain ⟨⟨r0, r1, r2, r3⟩, rfl⟩ := h.r4
  have ho := h.ones
  exact ⟨r0, r1, r2, r3, rfl, hide h, ho r0 (by simp [r4cells]), ho r1 (by simp [r4cells]), ho r2 (by simp [r4cells]), ho r3 (by simp [r4cells])⟩
theorem Cell4.ext {w w' : World} {b o : Nat} {r : R4} (h : Cell4 w b o r) (hb : b < w.heap.size) (E : Ext w w') : Cell4 w' b o r :=
  ⟨(E.cell (p := ⟨b, o, none⟩) hb).trans h.1, (E.cell (p := ⟨b, o + 1, none⟩) hb).trans h.2.1, (E.cell (p := ⟨b, o + 2, none⟩) hb).trans h.2.2.1, (E.cell (p := ⟨b, o + 3, none⟩) hb).trans h.2.2.2⟩

set_option maxRecDepth 100000 in
set_option maxHeartbeats 4000000 in
theorem madd_any (gm n cap i j : Nat) (gs caps : Nat → Nat) (rows : List (List Rat)) (v : Value) (q : Rat) (w : World) (hm : IsMat w gm gs caps rows) (hn : rows.length = n) (hi : i < n) (hj0 : j < (rows.getD i []).length)
    (hv : IsRat w v q) (hl1 : RatLen (mget rows i j) 4398046511104) (hl2 : RatLen q 4398046511104) :
    Calls Tryz.prog 106 #[.slice (some ⟨gm, 0, none⟩) n cap, .int .i64 (i : Int), .int .i64 (j : Int), v] w fun e w' => e = .returned (.tuple #[]) ∧ IsMat w' gm gs caps (mset rows i j (mget rows i j + q)) ∧ Keep (fun b => b = gs i) w w' := by
  obtain ⟨x0, x1, x2, x3, rfl, HV0, o0, o1, o2, o3⟩ := hv.cells4
  have HM0 := hide hm
  obtain ⟨L, hL⟩ : ∃ L, (rows.getD i []).length = L := ⟨_, rfl⟩
  obtain ⟨g, hg⟩ : ∃ g, gs i = g := ⟨_, rfl⟩
  obtain ⟨c, hc⟩ : ∃ c, caps i = c := ⟨_, rfl⟩
  obtain ⟨p, hp⟩ : ∃ p, mget rows i j = p := ⟨_, rfl⟩
  rw [hp] at hl1
  have hj : j < L := by omega
  have hi' : i < rows.length := by omega
  have HL1 := hide hl1; have HL2 := hide hl2; have HL := hide hL; have HG := hide hg; have HC0 := hide hc; have HP := hide hp; have HN := hide hn
  obtain ⟨r, hr1, hr2⟩ := (hm.row hi').at hj0
  rw [hg] at hr1
  rw [show (rows.getD i []).getD j 0 = p from hp] at hr2
  have hcell := hm.cell hi'
  rw [hg, hL, hc] at hcell
  have HCell := hide hcell; have HR1 := hide hr1; have HR2 := hide hr2
  have hgl := (hm.row hi').ty.lt
  rw [hg] at hgl
  have hgml := hm.ty.lt
  clear hv hm hl1 hl2 hL hg hc hp hcell hr1 hr2 hn
  go_enter Tryz.func106, Tryz.ntmps106
  go_wp2_with fail
  generalize hw1 : (w.alloc _) = w1
  have B0 : Blk w1 (w.heap.size) 113 #[x0, x1, x2, x3] := by rw [← hw1]; exact (Blk.new' _ _ _ _ (by simp))
  have E1 : Ext w w1 := by rw [← hw1]; exact ((Below.refl _ _).alloc (Nat.le_refl _) _)
  clear hw1
  have HC : Hid (∀ W, Ext w1 W → W.cell? ⟨gm, i, none⟩ = some (.slice (some ⟨g, 0, none⟩) L c)) := fun W E => ((E1.tr E).cell (p := ⟨gm, i, none⟩) hgml).trans HCell.out
  have HA : Hid (∀ W, Ext w1 W → Cell4 W g (j * 4) r) := fun W E => HR1.out.ext hgl (E1.tr E)
  have HR : Hid (∀ W, Ext w1 W → IsRat W r.val p) := fun W E => HR2.out.ext (E1.tr E)
  have HV : Hid (∀ W, Ext w1 W → IsRat W (.agg #[x0, x1, x2, x3]) q) := fun W E => HV0.out.ext (E1.tr E)
  obtain ⟨Gs, hGs⟩ : ∃ Gs : List (Value → World → Prop), Gs = [(fun v _ => v = .slice (some ⟨gm, 0, none⟩) n cap), (fun v _ => v = .int .i64 (i : Int)), (fun v _ => v = .pointer (some ⟨gm, i, none⟩)), (fun v _ => v = .slice (some ⟨g, 0, none⟩) L c), (fun v _ => v = .int .i64 (j : Int)), (fun v _ => v = .slice (some ⟨gm, 0, none⟩) n cap), (fun v _ => v = .int .i64 (i : Int)), (fun v _ => v = .pointer (some ⟨gm, i, none⟩)), (fun v _ => v = .slice (some ⟨g, 0, none⟩) L c), (fun v _ => v = .int .i64 (j : Int)), (fun v _ => v = .pointer (some ⟨g, j * 4, none⟩)), (fun v _ => v = R4.val r), (fun v _ => v = .agg #[x0, x1, x2, x3]), (fun v W => IsRat W v (p + q)), (fun v _ => v = .pointer (some ⟨g, j * 4, none⟩))] := ⟨_, rfl⟩
  have hst : Flow.Stay Ext Gs := by rw [hGs]; exact (Flow.Stay.cons (fun _ _ _ _ h => h) (Flow.Stay.cons (fun _ _ _ _ h => h) (Flow.Stay.cons (fun _ _ _ _ h => h) (Flow.Stay.cons (fun _ _ _ _ h => h) (Flow.Stay.cons (fun _ _ _ _ h => h) (Flow.Stay.cons (fun _ _ _ _ h => h) (Flow.Stay.cons (fun _ _ _ _ h => h) (Flow.Stay.cons (fun _ _ _ _ h => h) (Flow.Stay.cons (fun _ _ _ _ h => h) (Flow.Stay.cons (fun _ _ _ _ h => h) (Flow.Stay.cons (fun _ _ _ _ h => h) (Flow.Stay.cons (fun _ _ _ _ h => h) (Flow.Stay.cons (fun _ _ _ _ h => h) (Flow.Stay.cons (fun _ _ E _ h => IsRat.ext h E) (Flow.Stay.cons (fun _ _ _ _ h => h) Flow.Stay.nil)))))))))))))))
  refine Flow.wp_region_flow 15 (by kernel_rfl) (fun W => Ext w1 W) Gs (by kernel_rfl) (Ext.rfl' w1).drew ?flowsteps ?flowend
  case flowsteps =>
    refine ⟨?_, ?_, ?_, ?_, ?_, ?_, ?_, ?_, ?_, ?_, ?_, ?_, ?_, ?_, ?_, trivial⟩
    · refine Flow.step_val rfl fun a W hb hI hd => ?_
      have h0 : a.eval (.tmp 0) = .slice (some ⟨gm, 0, none⟩) n cap := hb.pre' 0 (by kernel_rfl)
      exact ⟨_, rfl, by rw [hGs]; exact h0⟩
    · refine Flow.step_val rfl fun a W hb hI hd => ?_
      have h1 : a.eval (.tmp 1) = .int .i64 (i : Int) := hb.pre' 1 (by kernel_rfl)
      exact ⟨_, rfl, by rw [hGs]; exact h1⟩
    · refine Flow.step_val rfl fun a W hb hI hd => ?_
      have h8 : a.eval (.tmp 8) = .slice (some ⟨gm, 0, none⟩) n cap := by have h := hd _ (Array.mem_of_getElem? (i := 0) rfl) rfl; rw [hGs] at h; exact h
      have h9 : a.eval (.tmp 9) = .int .i64 (i : Int) := by have h := hd _ (Array.mem_of_getElem? (i := 1) rfl) rfl; rw [hGs] at h; exact h
      exact ⟨_, run_index152 h8 h9 hi, by rw [hGs]; rfl⟩
    · refine Flow.step_val rfl fun a W hb hI hd => ?_
      have h10 : a.eval (.tmp 10) = .pointer (some ⟨gm, i, none⟩) := by have h := hd _ (Array.mem_of_getElem? (i := 0) rfl) rfl; rw [hGs] at h; exact h
      exact ⟨_, run_load105 h10 (HC.out W hI), by rw [hGs]; rfl⟩
    · refine Flow.step_val rfl fun a W hb hI hd => ?_
      have h2 : a.eval (.tmp 2) = .int .i64 (j : Int) := hb.pre' 2 (by kernel_rfl)
      exact ⟨_, rfl, by rw [hGs]; exact h2⟩
    · refine Flow.step_val rfl fun a W hb hI hd => ?_
      have h0 : a.eval (.tmp 0) = .slice (some ⟨gm, 0, none⟩) n cap := hb.pre' 0 (by kernel_rfl)
      exact ⟨_, rfl, by rw [hGs]; exact h0⟩
    · refine Flow.step_val rfl fun a W hb hI hd => ?_
      have h1 : a.eval (.tmp 1) = .int .i64 (i : Int) := hb.pre' 1 (by kernel_rfl)
      exact ⟨_, rfl, by rw [hGs]; exact h1⟩
    · refine Flow.step_val rfl fun a W hb hI hd => ?_
      have h13 : a.eval (.tmp 13) = .slice (some ⟨gm, 0, none⟩) n cap := by have h := hd _ (Array.mem_of_getElem? (i := 0) rfl) rfl; rw [hGs] at h; exact h
      have h14 : a.eval (.tmp 14) = .int .i64 (i : Int) := by have h := hd _ (Array.mem_of_getElem? (i := 1) rfl) rfl; rw [hGs] at h; exact h
      exact ⟨_, run_index152 h13 h14 hi, by rw [hGs]; rfl⟩
    · refine Flow.step_val rfl fun a W hb hI hd => ?_
      have h15 : a.eval (.tmp 15) = .pointer (some ⟨gm, i, none⟩) := by have h := hd _ (Array.mem_of_getElem? (i := 0) rfl) rfl; rw [hGs] at h; exact h
      exact ⟨_, run_load105 h15 (HC.out W hI), by rw [hGs]; rfl⟩
    · refine Flow.step_val rfl fun a W hb hI hd => ?_
      have h2 : a.eval (.tmp 2) = .int .i64 (j : Int) := hb.pre' 2 (by kernel_rfl)
      exact ⟨_, rfl, by rw [hGs]; exact h2⟩
    · refine Flow.step_val rfl fun a W hb hI hd => ?_
      have h16 : a.eval (.tmp 16) = .slice (some ⟨g, 0, none⟩) L c := by have h := hd _ (Array.mem_of_getElem? (i := 0) rfl) rfl; rw [hGs] at h; exact h
      have h17 : a.eval (.tmp 17) = .int .i64 (j : Int) := by have h := hd _ (Array.mem_of_getElem? (i := 1) rfl) rfl; rw [hGs] at h; exact h
      exact ⟨_, run_index105 h16 h17 hj, by rw [hGs]; rfl⟩
    · refine Flow.step_val rfl fun a W hb hI hd => ?_
      have h18 : a.eval (.tmp 18) = .pointer (some ⟨g, j * 4, none⟩) := by have h := hd _ (Array.mem_of_getElem? (i := 0) rfl) rfl; rw [hGs] at h; exact h
      exact ⟨_, run_cell4 h18 (HA.out W hI), by rw [hGs]; rfl⟩
    · refine Flow.step_val rfl fun a W hb hI hd => ?_
      have h7 : a.eval (.tmp 7) = .pointer (some ⟨w.heap.size, 0, none⟩) := hb.pre' 7 (by kernel_rfl)
      exact ⟨_, run_load4 h7 (by have h := (B0.ext hI).cell 0; exact h) (by have h := (B0.ext hI).cell 1; exact h) (by have h := (B0.ext hI).cell 2; exact h) (by have h := (B0.ext hI).cell 3; exact h), by rw [hGs]; rfl⟩
    · refine Flow.step_call rfl fun a W hb hI hd => ?_
      have h19 : a.eval (.tmp 19) = R4.val r := by have h := hd _ (Array.mem_of_getElem? (i := 0) rfl) rfl; rw [hGs] at h; exact h
      have h20 : a.eval (.tmp 20) = .agg #[x0, x1, x2, x3] := by have h := hd _ (Array.mem_of_getElem? (i := 1) rfl) rfl; rw [hGs] at h; exact h
      refine ⟨112, #[a.eval (.tmp 19), a.eval (.tmp 20)], Flow.run_enter (enters_of Tryz.func112 (by kernel_rfl) rfl) (by simp), ?_⟩
      rw [h19, h20]
      refine (add_rat _ _ p q W (HR.out W hI) (HV.out W hI) HL1.out HL2.out).mono ?_
      rintro e w' ⟨v, rfl, hm, hE⟩
      exact ⟨v, rfl, by rw [hGs]; exact hm, hI.tr hE, hst.at hE⟩
    · refine Flow.step_val rfl fun a W hb hI hd => ?_
      have h11 : a.eval (.tmp 11) = .slice (some ⟨g, 0, none⟩) L c := by have h := hd _ (Array.mem_of_getElem? (i := 0) rfl) rfl; rw [hGs] at h; exact h
      have h12 : a.eval (.tmp 12) = .int .i64 (j : Int) := by have h := hd _ (Array.mem_of_getElem? (i := 1) rfl) rfl; rw [hGs] at h; exact h
      exact ⟨_, run_index105 h11 h12 hj, by rw [hGs]; rfl⟩
  case flowend =>
    rw [hGs]
    refine fun W hI v0 h0 v1 h1 v2 h2 v3 h3 v4 h4 v5 h5 v6 h6 v7 h7 v8 h8 v9 h9 v10 h10 v11 h11 v12 h12 v13 h13 v14 h14 => ?_
    obtain rfl : .slice (some ⟨gm, 0, none⟩) n cap = v0 := Eq.symm h0; clear h0
    obtain rfl : .int .i64 (i : Int) = v1 := Eq.symm h1; clear h1
    obtain rfl : .pointer (some ⟨gm, i, none⟩) = v2 := Eq.symm h2; clear h2
    obtain rfl : .slice (some ⟨g, 0, none⟩) L c = v3 := Eq.symm h3; clear h3
    obtain rfl : .int .i64 (j : Int) = v4 := Eq.symm h4; clear h4
    obtain rfl : .slice (some ⟨gm, 0, none⟩) n cap = v5 := Eq.symm h5; clear h5
    obtain rfl : .int .i64 (i : Int) = v6 := Eq.symm h6; clear h6
    obtain rfl : .pointer (some ⟨gm, i, none⟩) = v7 := Eq.symm h7; clear h7
    obtain rfl : .slice (some ⟨g, 0, none⟩) L c = v8 := Eq.symm h8; clear h8
    obtain rfl : .int .i64 (j : Int) = v9 := Eq.symm h9; clear h9
    obtain rfl : .pointer (some ⟨g, j * 4, none⟩) = v10 := Eq.symm h10; clear h10
    obtain rfl : R4.val r = v11 := Eq.symm h11; clear h11
    obtain rfl : .agg #[x0, x1, x2, x3] = v12 := Eq.symm h12; clear h12
    replace h13 : (fun v W => IsRat W v (p + q)) v13 W := h13
    obtain rfl : .pointer (some ⟨g, j * 4, none⟩) = v14 := Eq.symm h14; clear h14
    clear hst hGs
    show wpList _ _ _ _ _ _
    simp only [List.drop_succ_cons, List.drop_zero, Act.put, List.setIfInBounds_toArray, List.set_cons_zero, List.set_cons_succ]
    obtain ⟨y0, y1, y2, y3, rfl, HY, p0, p1, p2, p3⟩ := h13.cells4
    clear h13
    replace p0 := st_any p0
    replace p1 := st_any p1
    replace p2 := st_any p2
    replace p3 := st_any p3
    obtain ⟨d0, d1, d2, d3⟩ := HA.out W hI
    have hMW := HM0.out.ext (E1.tr hI)
    have hfr := (hMW.row hi').frozen
    rw [HG.out] at hfr
    have f0 := hfr (j * 4)
    have f1 := hfr (j * 4 + 1)
    have f2 := hfr (j * 4 + 2)
    have f3 := hfr (j * 4 + 3)
    have HMW := hide hMW
    clear hfr hMW
    go_wp2
    go_end0
    have hput := HMW.out.put hi' (by rw [HL.out]; exact hj) HY.out
    rw [HG.out] at hput
    exact ⟨rfl, by rw [HP.out]; exact hput, by rw [HG.out]; exact Keep.rput4 (S := fun b => b = g) (g := g) (o := j * 4) (Keep.ext (E1.tr hI)) (.inl rfl) (y0, y1, y2, y3)⟩

end Go.Proofs.YtncabodphjkkfaaGreat
