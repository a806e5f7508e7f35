/- The solution of equations. Conditions: the pivots are not 0, the fractions fit into a machine. -/
import Derived.Test.YtncabodphjkkfaaGreatBack
namespace Go.Proofs.YtncabodphjkkfaaGreat
open Go.RowKit Go.Limbs Go.Shelf

theorem cell4_of {W : World} {g : Nat} {r : R4} (h : Blk W g 113 (r4cells r).toArray) : Cell4 W g 0 r := ⟨h.cell 0, h.cell 1, h.cell 2, h.cell 3⟩
theorem run_build105 {W : World} {r : R4} {ρ : Operand → Value} {x : Operand} {dst : Option Tmp} {ty : TypeId} {pos : String} {after : Array Edge} {guard : Option (Nat × Bool)}
    (hx : ρ x = R4.val r) (h1 : ∀ u ∈ r4cells r, u.oneCell' = true) : (execOp ρ { dst, op := .buildSlice 105 1 #[(0, x)], type := ty, pos, after, guard }).run Tryz.prog W = .ok (.value (.slice (some ⟨W.heap.size, 0, none⟩) 1 1)) (W.alloc (.cells (r4cells r).toArray 113)) := by
  obtain ⟨r0, r1, r2, r3⟩ := r
  have p0 := st_any (h1 r0 (by simp [r4cells]))
  have p1 := st_any (h1 r1 (by simp [r4cells]))
  have p2 := st_any (h1 r2 (by simp [r4cells]))
  have p3 := st_any (h1 r3 (by simp [r4cells]))
  simp [go_sem, execOp, hx, R4.val, r4cells]
theorem run_append_op {P : Program} {w w' : World} {v dv sv : Value} {ρ : Operand → Value} {d s : Operand} {dT sT : TypeId} {dst : Option Tmp} {ty : TypeId} {pos : String} {after : Array Edge} {guard : Option (Nat × Bool)}
    (hd : ρ d = dv) (hs : ρ s = sv) (hrun : (Builtin.append_ #[dT, sT] ty #[dv, sv]).run P w = .ok v w') :
    (execOp ρ { dst, op := .call { callee := .builtin .append, args := #[d, s], argTypes := #[dT, sT] }, type := ty, pos, after, guard }).run P w = .ok (.value v) w' := by
  simp [execOp, resolve, invoke, builtin, hd, hs, hrun, Result.andThen]

set_option maxRecDepth 100000 in
set_option maxHeartbeats 8000000 in
theorem solve_any (gm N cap gb cb : Nat) (gs caps : Nat → Nat) (rows : List (List Rat)) (b : List Rat) (w : World) (hm : IsMat w gm gs caps rows) (hb : RRow w gb cb b) (hd : Dim rows N N) (hbl : b.length = N) (hcap : ∀ i, i < N → caps i = N)
    (hgb : ¬ MatB gm gs N gb) (ht : TriOk (augPart rows b N) N (N + 1) 4398046511104) (hk : BackOk (elimTo (augPart rows b N) N) N 4398046511104) (hN : N ≤ 1000000) :
    Calls Tryz.prog 109 #[.slice (some ⟨gm, 0, none⟩) N cap, .slice (some ⟨gb, 0, none⟩) N cb] w fun e w' => ∃ gx, e = .returned (.slice (some ⟨gx, 0, none⟩) N N) ∧ w.heap.size ≤ gx ∧ RRow w' gx N (solveR rows b N) ∧ Keep (MatB gm gs N) w w' := by
  have HM0 := hide hm; have HB0 := hide hb; have HT := hide ht; have HK := hide hk; have HD := hide hd; have HBl := hide hbl; have HCap := hide hcap; have HGb := hide hgb
  have hgml := hm.ty.lt
  have HGs : Hid (∀ i, i < N → gs i < w.heap.size) := fun i hi => (hm.row (by rw [hd.1]; exact hi)).ty.lt
  clear hm hb ht hk hd hbl hcap hgb
  go_enter Tryz.func109, Tryz.ntmps109
  go_wp2_with fail
  go_loopw [13] (fun s wr => ∃ (i : Nat) (gs' caps' : Nat → Nat), i ≤ N ∧ s = .int .i64 (i : Int) ∧ IsMat wr gm gs' caps' (augPart rows b i) ∧ (∀ k, i ≤ k → k < N → gs' k = gs k ∧ caps' k = N) ∧ (∀ k, k < i → w.heap.size ≤ gs' k) ∧ RRow wr gb cb b ∧ Keep (MatB gm gs N) w wr) (fun s _ => N - (intOf s).toNat)
  case atStart => exact ⟨0, gs, caps, Nat.zero_le _, rfl, by rw [augPart_zero]; exact HM0.out, fun k _ hk => ⟨rfl, HCap.out k hk⟩, fun k hk => by omega, HB0.out, Keep.refl _ _⟩
  case round =>
    obtain ⟨i, gs', caps', hiN', rfl, hmt, hgo, hgn, hbr, hK⟩ := hrel
    have HM := hide hmt; have HGo := hide hgo; have HGn := hide hgn; have HB := hide hbr; have HKe := hide hK
    clear hmt hgo hgn hbr hK
    by_cases hlt : i < N
    · have hir : i < rows.length := by rw [HD.out.1]; exact hlt
      have hiA : i < (augPart rows b i).length := by rw [augPart_length]; exact hir
      obtain ⟨ri, hri⟩ : ∃ r, rows.getD i [] = r := ⟨_, rfl⟩
      have hrow := HM.out.row hiA
      have hcl := HM.out.cell hiA
      rw [augPart_row rows b i i hir, if_neg (by omega), hri, (HGo.out i (Nat.le_refl _) hlt).1, (HGo.out i (Nat.le_refl _) hlt).2] at hrow hcl
      have HNl := hide (show ri.length = N by rw [← hri]; exact HD.out.2 i hlt)
      rw [HNl.out] at hcl
      obtain ⟨gi, hgi⟩ : ∃ g, gs i = g := ⟨_, rfl⟩
      rw [hgi] at hrow hcl
      obtain ⟨bi, hbi⟩ : ∃ x, b.getD i 0 = x := ⟨_, rfl⟩
      obtain ⟨rb, hb1, hb2⟩ := HB.out.at (j := i) (by rw [HBl.out]; exact hlt)
      rw [hbi] at hb2
      have hml := HM.out.ty.lt
      have hbl2 := HB.out.ty.lt
      have HC : Hid (∀ W, Ext wr W → W.cell? ⟨gm, i, none⟩ = some (.slice (some ⟨gi, 0, none⟩) N N)) := fun W E => (E.cell (p := ⟨gm, i, none⟩) hml).trans hcl
      have HA : Hid (∀ W, Ext wr W → Cell4 W gb (i * 4) rb) := fun W E => hb1.ext hbl2 E
      have HBq : Hid (∀ W, Ext wr W → IsRat W rb.val bi) := fun W E => hb2.ext E
      have HOne := hide hb2.ones
      have HRow := hide hrow
      have HRi := hide hri; have HBi := hide hbi; have HGi := hide hgi
      clear hri hrow hcl hgi hbi hb1 hb2 hml hbl2
      go_wp2_with fail
      obtain ⟨Gs, hGs⟩ : ∃ Gs : List (Value → World → Prop), Gs = [(fun v _ => v = .slice (some ⟨gm, 0, none⟩) N cap), (fun v _ => v = .int .i64 (i : Int)), (fun v _ => v = .slice (some ⟨gm, 0, none⟩) N cap), (fun v _ => v = .int .i64 (i : Int)), (fun v _ => v = .pointer (some ⟨gm, i, none⟩)), (fun v _ => v = .slice (some ⟨gi, 0, none⟩) N N), (fun v _ => v = .slice (some ⟨gb, 0, none⟩) N cb), (fun v _ => v = .int .i64 (i : Int)), (fun v _ => v = .pointer (some ⟨gb, i * 4, none⟩)), (fun v _ => v = R4.val rb), (fun v W => ∃ g, v = .slice (some ⟨g, 0, none⟩) 1 1 ∧ Blk W g 113 (r4cells rb).toArray), (fun v W => ∃ g c, v = .slice (some ⟨g, 0, none⟩) (N + 1) c ∧ wr.heap.size ≤ g ∧ RRow W g c (ri ++ [bi])), (fun v _ => v = .pointer (some ⟨gm, i, none⟩))] := ⟨_, rfl⟩
      have hst : Flow.Stay Ext Gs := by rw [hGs]; exact (Flow.Stay.cons (fun _ _ _ _ h => h) (Flow.Stay.cons (fun _ _ _ _ h => h) (Flow.Stay.cons (fun _ _ _ _ h => h) (Flow.Stay.cons (fun _ _ _ _ h => h) (Flow.Stay.cons (fun _ _ _ _ h => h) (Flow.Stay.cons (fun _ _ _ _ h => h) (Flow.Stay.cons (fun _ _ _ _ h => h) (Flow.Stay.cons (fun _ _ _ _ h => h) (Flow.Stay.cons (fun _ _ _ _ h => h) (Flow.Stay.cons (fun _ _ _ _ h => h) (Flow.Stay.cons (fun _ _ E _ h => by obtain ⟨g, h1, h2⟩ := h; exact ⟨g, h1, h2.ext E⟩) (Flow.Stay.cons (fun _ _ E _ h => by obtain ⟨g, c, h1, h2, h3⟩ := h; exact ⟨g, c, h1, h2, h3.ext E⟩) (Flow.Stay.cons (fun _ _ _ _ h => h) Flow.Stay.nil)))))))))))))
      refine Flow.wp_region_flow 13 (by kernel_rfl) (fun W => Ext wr W) Gs (by kernel_rfl) (Ext.rfl' wr).drew ?flowsteps ?flowend
      case flowsteps =>
        refine ⟨?_, ?_, ?_, ?_, ?_, ?_, ?_, ?_, ?_, ?_, ?_, ?_, ?_, trivial⟩
        · refine Flow.step_val rfl fun a W hb hI hd => ?_
          have h0 : a.eval (.tmp 0) = .slice (some ⟨gm, 0, none⟩) N cap := hb.pre' 0 (by kernel_rfl)
          exact ⟨_, rfl, by rw [hGs]; exact h0⟩
        · refine Flow.step_val rfl fun a W hb hI hd => ?_
          have h5 : a.eval (.tmp 5) = .int .i64 (i : Int) := hb.pre' 5 (by kernel_rfl)
          exact ⟨_, rfl, by rw [hGs]; exact h5⟩
        · refine Flow.step_val rfl fun a W hb hI hd => ?_
          have h0 : a.eval (.tmp 0) = .slice (some ⟨gm, 0, none⟩) N cap := hb.pre' 0 (by kernel_rfl)
          exact ⟨_, rfl, by rw [hGs]; exact h0⟩
        · refine Flow.step_val rfl fun a W hb hI hd => ?_
          have h5 : a.eval (.tmp 5) = .int .i64 (i : Int) := hb.pre' 5 (by kernel_rfl)
          exact ⟨_, rfl, by rw [hGs]; exact h5⟩
        · refine Flow.step_val rfl fun a W hb hI hd => ?_
          have h18 : a.eval (.tmp 18) = .slice (some ⟨gm, 0, none⟩) N cap := by have h := hd _ (Array.mem_of_getElem? (i := 0) rfl) rfl; rw [hGs] at h; exact h
          have h19 : a.eval (.tmp 19) = .int .i64 (i : Int) := by have h := hd _ (Array.mem_of_getElem? (i := 1) rfl) rfl; rw [hGs] at h; exact h
          exact ⟨_, run_index152 h18 h19 hlt, by rw [hGs]; rfl⟩
        · refine Flow.step_val rfl fun a W hb hI hd => ?_
          have h20 : a.eval (.tmp 20) = .pointer (some ⟨gm, i, none⟩) := by have h := hd _ (Array.mem_of_getElem? (i := 0) rfl) rfl; rw [hGs] at h; exact h
          exact ⟨_, run_load105 h20 (HC.out W hI), by rw [hGs]; rfl⟩
        · refine Flow.step_val rfl fun a W hb hI hd => ?_
          have h1 : a.eval (.tmp 1) = .slice (some ⟨gb, 0, none⟩) N cb := hb.pre' 1 (by kernel_rfl)
          exact ⟨_, rfl, by rw [hGs]; exact h1⟩
        · refine Flow.step_val rfl fun a W hb hI hd => ?_
          have h5 : a.eval (.tmp 5) = .int .i64 (i : Int) := hb.pre' 5 (by kernel_rfl)
          exact ⟨_, rfl, by rw [hGs]; exact h5⟩
        · refine Flow.step_val rfl fun a W hb hI hd => ?_
          have h22 : a.eval (.tmp 22) = .slice (some ⟨gb, 0, none⟩) N cb := by have h := hd _ (Array.mem_of_getElem? (i := 0) rfl) rfl; rw [hGs] at h; exact h
          have h23 : a.eval (.tmp 23) = .int .i64 (i : Int) := by have h := hd _ (Array.mem_of_getElem? (i := 1) rfl) rfl; rw [hGs] at h; exact h
          exact ⟨_, run_index105 h22 h23 hlt, by rw [hGs]; rfl⟩
        · refine Flow.step_val rfl fun a W hb hI hd => ?_
          have h24 : a.eval (.tmp 24) = .pointer (some ⟨gb, i * 4, none⟩) := by have h := hd _ (Array.mem_of_getElem? (i := 0) rfl) rfl; rw [hGs] at h; exact h
          exact ⟨_, run_cell4 h24 (HA.out W hI), by rw [hGs]; rfl⟩
        · refine Flow.step_to rfl fun a W hb hI hd => ?_
          have h25 : a.eval (.tmp 25) = R4.val rb := by have h := hd _ (Array.mem_of_getElem? (i := 0) rfl) rfl; rw [hGs] at h; exact h
          exact ⟨_, _, .inl (run_build105 h25 (HOne.out)), by rw [hGs]; exact ⟨W.heap.size, rfl, Blk.new _ _ _⟩, hI.tr ((Below.refl _ _).alloc (Nat.le_refl _) _), hst.at ((Below.refl _ _).alloc (Nat.le_refl _) _)⟩
        · refine Flow.step_to rfl fun a W hb hI hd => ?_
          have h21 : a.eval (.tmp 21) = .slice (some ⟨gi, 0, none⟩) N N := by have h := hd _ (Array.mem_of_getElem? (i := 0) rfl) rfl; rw [hGs] at h; exact h
          have h26 : (fun v W => ∃ g, v = .slice (some ⟨g, 0, none⟩) 1 1 ∧ Blk W g 113 (r4cells rb).toArray) (a.eval (.tmp 26)) W := by have h := hd _ (Array.mem_of_getElem? (i := 1) rfl) rfl; rw [hGs] at h; exact h
          obtain ⟨g1, hg1, hB1⟩ := h26
          have hrr := HRow.out.ext hI
          obtain ⟨v', W', g', c', hrun, hv, hgg, hR, E'⟩ := hrr.grow HNl.out.symm (cp := 1) (cell4_of hB1) (HBq.out W hI) (by have := HNl.out; omega) 105
          rw [HNl.out] at hrun hv
          exact ⟨v', W', .inl (run_append_op h21 hg1 hrun), by rw [hGs]; exact ⟨g', c', hv, Nat.le_trans hI.size hgg, hR⟩, hI.tr E', hst.at E'⟩
        · refine Flow.step_val rfl fun a W hb hI hd => ?_
          have h16 : a.eval (.tmp 16) = .slice (some ⟨gm, 0, none⟩) N cap := by have h := hd _ (Array.mem_of_getElem? (i := 0) rfl) rfl; rw [hGs] at h; exact h
          have h17 : a.eval (.tmp 17) = .int .i64 (i : Int) := by have h := hd _ (Array.mem_of_getElem? (i := 1) rfl) rfl; rw [hGs] at h; exact h
          exact ⟨_, run_index152 h16 h17 hlt, by rw [hGs]; rfl⟩
      case flowend =>
        rw [hGs]
        refine fun W hI v0 h0 v1 h1 v2 h2 v3 h3 v4 h4 v5 h5 v6 h6 v7 h7 v8 h8 v9 h9 v10 h10 v11 h11 v12 h12 => ?_
        obtain rfl : .slice (some ⟨gm, 0, none⟩) N cap = v0 := Eq.symm h0; clear h0
        obtain rfl : .int .i64 (i : Int) = v1 := Eq.symm h1; clear h1
        obtain rfl : .slice (some ⟨gm, 0, none⟩) N cap = v2 := Eq.symm h2; clear h2
        obtain rfl : .int .i64 (i : Int) = v3 := Eq.symm h3; clear h3
        obtain rfl : .pointer (some ⟨gm, i, none⟩) = v4 := Eq.symm h4; clear h4
        obtain rfl : .slice (some ⟨gi, 0, none⟩) N N = v5 := Eq.symm h5; clear h5
        obtain rfl : .slice (some ⟨gb, 0, none⟩) N cb = v6 := Eq.symm h6; clear h6
        obtain rfl : .int .i64 (i : Int) = v7 := Eq.symm h7; clear h7
        obtain rfl : .pointer (some ⟨gb, i * 4, none⟩) = v8 := Eq.symm h8; clear h8
        obtain rfl : R4.val rb = v9 := Eq.symm h9; clear h9
        replace h10 : (fun v W => ∃ g, v = .slice (some ⟨g, 0, none⟩) 1 1 ∧ Blk W g 113 (r4cells rb).toArray) v10 W := h10
        replace h11 : (fun v W => ∃ g c, v = .slice (some ⟨g, 0, none⟩) (N + 1) c ∧ wr.heap.size ≤ g ∧ RRow W g c (ri ++ [bi])) v11 W := h11
        obtain rfl : .pointer (some ⟨gm, i, none⟩) = v12 := Eq.symm h12; clear h12
        clear hst hGs
        show wpList _ _ _ _ _ _
        simp only [List.drop_succ_cons, List.drop_zero, Act.put, List.setIfInBounds_toArray, List.set_cons_zero, List.set_cons_succ]
        obtain ⟨g', c', rfl, hg', hR'⟩ := h11
        have hMW := HM.out.ext hI
        have hne : ∀ k, k < (augPart rows b i).length → gs' k ≠ g' := fun k hk => by
          have := (HM.out.row hk).ty.lt; omega
        have hsw := hMW.swap hiA hR' hne
        have hl : (ri ++ [bi]).length = N + 1 := by simp [HNl.out]
        rw [hl] at hsw
        have c0 := hMW.cell hiA
        have f0 := hMW.frozen i
        have hbK := (HB.out.ext hI).keep (S := fun b => b = gm) ((Keep.refl (fun b => b = gm) W).setCell (p := ⟨gm, i, none⟩) (.inl rfl) (.slice (some ⟨g', 0, none⟩) (N + 1) c')) (fun e => HGb.out (.inl e)) (fun b hb => ⟨105, by rw [hb]; exact hMW.ty, by decide⟩)
        have hKK : Keep (MatB gm gs N) w (W.setCell ⟨gm, i, none⟩ (.slice (some ⟨g', 0, none⟩) (N + 1) c')) := (HKe.out.trans (Keep.ext hI)).setCell (p := ⟨gm, i, none⟩) (.inl (.inl rfl)) _
        have hws := HKe.out.size
        have HSw := hide hsw; have HBK := hide hbK; have HKK := hide hKK
        have hgw : w.heap.size ≤ g' := by omega
        clear hsw hbK hKK hMW hne hl hR' hI h10
        go_wp2_with fail
        go_roundw
        case rel =>
          refine ⟨i + 1, fun k => if k = i then g' else gs' k, fun k => if k = i then c' else caps' k, by omega, by go_num, ?_, fun k h1 h2 => ?_, fun k hk => ?_, HBK.out, HKK.out⟩
          · have h := HSw.out
            rw [← HRi.out, ← HBi.out, augPart_succ rows b i hir] at h
            exact h
          · simp only [if_neg (show ¬ k = i by omega)]
            exact HGo.out k (by omega) h2
          · by_cases e : k = i
            · simp only [if_pos e]; omega
            · simp only [if_neg e]; exact HGn.out k (by omega)
        case measure => simp [intOf]; omega
    · obtain rfl : N = i := by omega
      have hdA : Dim (augPart rows b N) N (N + 1) := HT.out.dim
      have hKg : ∀ k, k < N → w.heap.size ≤ gs' k := HGn.out
      have HTri := hide (triangle_any gm N (N + 1) cap gs' caps' _ wr HM.out HT.out (by omega) (by omega))
      have HDA := hide hdA; have HKg := hide hKg
      clear hdA hKg
      go_wp2_with fail
      refine HTri.out.mono ?_
      rintro e w2 ⟨v, rfl, hm2, hk2⟩
      obtain ⟨T, hT⟩ : ∃ T, elimTo (augPart rows b N) N = T := ⟨_, rfl⟩
      have HDT := hide (show Dim T N (N + 1) by rw [← hT]; exact HDA.out.to N)
      have HK2 := hide (show BackOk T N 4398046511104 by rw [← hT]; exact HK.out)
      have HSo := hide (show solveR rows b N = backX T N N by unfold solveR; rw [hT])
      rw [hT] at hm2
      have HM2 := hide hm2
      have hK2 : Keep (MatB gm gs N) w w2 := ⟨hk2.os.trans HKe.out.os, hk2.tape.trans HKe.out.tape, hk2.output.trans HKe.out.output, Nat.le_trans HKe.out.size hk2.size, fun x hx hn =>
        (hk2.block x (Nat.lt_of_lt_of_le hx HKe.out.size) (fun hr => by
          obtain ⟨k, hk, rfl⟩ := hr
          have := HKg.out k hk
          omega)).trans (HKe.out.block x hx hn)⟩
      have hmk := mk_rats N (by omega)
      have hXa : Blk (w2.alloc (.cells (repCells z4 N 0) 113)) w2.heap.size 113 (repCells z4 N 0) := Blk.new _ _ _
      have hEa : Ext w2 (w2.alloc (.cells (repCells z4 N 0) 113)) := (Below.refl _ _).alloc (Nat.le_refl _) _
      have HXa := hide (XRow.start hXa (repCells_size z4 (Nat.zero_le _)) (backX T N 0))
      have HMa := hide (HM2.out.ext hEa)
      have HKa := hide (hK2.trans (Keep.ext hEa))
      obtain ⟨gx, hgx⟩ : ∃ g, w2.heap.size = g := ⟨_, rfl⟩
      rw [hgx] at HXa
      have HGx := hide (show gx ≠ gm ∧ ∀ k, k < N → gx ≠ gs' k by
        rw [← hgx]
        exact ⟨fun e => by have := HM2.out.ty.lt; omega, fun k hk e => by have := (HM2.out.row (by rw [HDT.out.1]; exact hk)).ty.lt; omega⟩)
      have hgxw : w.heap.size ≤ gx := by rw [← hgx]; exact hK2.size
      have HGxe := hide hgx
      clear hm2 hk2 hK2 hXa hEa hgx hT HTri HM HB HKe HGo
      go_wp2_with fail
      rw [HGxe.out]
      clear hmk
      go_loopw [8] (fun s wr => ∃ (k : Nat), k ≤ N ∧ s = .int .i64 ((N : Int) - 1 - k) ∧ IsMat wr gm gs' caps' T ∧ XRow wr gx N k (backX T N k) ∧ Keep (MatB gm gs N) w wr) (fun s _ => (intOf s + 1).toNat)
      case atStart => exact ⟨0, Nat.zero_le _, by simp, HMa.out, HXa.out, HKa.out⟩
      case round =>
        obtain ⟨k, hkN, rfl, hmt, hxr, hkk⟩ := hrel
        have HM3 := hide hmt; have HX3 := hide hxr; have HK3 := hide hkk
        clear hmt hxr hkk
        obtain ⟨w3, hw3⟩ : ∃ w0, w0 = wr := ⟨_, rfl⟩
        subst hw3
        by_cases hlt : k < N
        · obtain ⟨i, hi⟩ : ∃ i : Nat, N - 1 - k = i := ⟨_, rfl⟩
          have hij : (N : Int) - 1 - k = (i : Int) := by omega
          have hiN : i < N := by omega
          have hiN1 : i < N + 1 := by omega
          have hik : i + 1 + k = N := by omega
          have HI := hide hi; have HIJ := hide hij
          rw [hij]
          clear hi hij
          obtain ⟨gi, hgi⟩ : ∃ g, gs' i = g := ⟨_, rfl⟩
          obtain ⟨ci, hcci⟩ : ∃ g, caps' i = g := ⟨_, rfl⟩
          have hiT : i < T.length := by rw [HDT.out.1]; exact hiN
          have hcl := HM3.out.cell hiT
          rw [hgi, hcci, HDT.out.2 i hiN] at hcl
          obtain ⟨rn, hn1, hn2⟩ := (HM3.out.row hiT).at (j := N) (by rw [HDT.out.2 i hiN]; omega)
          rw [hgi] at hn1
          obtain ⟨a0, a1, a2, a3⟩ := hn1
          have hn2' : IsRat w3 rn.val (backS T N i (backX T N k) 0) := hn2
          obtain ⟨s0, s1, s2, s3⟩ := rn
          have hones := hn2.ones
          have p0 := st_any (hones s0 (by simp [r4cells]))
          have p1 := st_any (hones s1 (by simp [r4cells]))
          have p2 := st_any (hones s2 (by simp [r4cells]))
          have p3 := st_any (hones s3 (by simp [r4cells]))
          have HGi := hide hgi; have HCi0 := hide hcci; have HN2 := hide hn2'
          clear hgi hcci hn2 hn2' hones
          go_wp2_with fail
          have hEb : Ext w3 (w3.alloc (.cells #[s0, s1, s2, s3] 113)) := (Below.refl _ _).alloc (Nat.le_refl _) _
          obtain ⟨gv, hgv⟩ : ∃ g, w3.heap.size = g := ⟨_, rfl⟩
          have HBv0 := hide (show Blk (w3.alloc (.cells #[s0, s1, s2, s3] 113)) gv 113 (r4cells (s0, s1, s2, s3)).toArray from Blk.new' _ _ _ _ hgv.symm)
          have HQ0 := hide (HN2.out.ext hEb)
          have HM4 := hide (HM3.out.ext hEb)
          have HX4 := hide (HX3.out.ext hEb)
          have HK4 := hide (HK3.out.trans (Keep.ext hEb))
          have HGv := hide (show gv ≠ gm ∧ (∀ k, k < N → gv ≠ gs' k) ∧ gv ≠ gx ∧ w.heap.size ≤ gv by
            rw [← hgv]
            exact ⟨fun e => by have := HM3.out.ty.lt; omega, fun k hk e => by have := (HM3.out.row (by rw [HDT.out.1]; exact hk)).ty.lt; omega, fun e => by have := HX3.out.ty.lt; omega, HK3.out.size⟩)
          rw [hgv]
          generalize w3.alloc (.cells #[s0, s1, s2, s3] 113) = w4 at HBv0 HQ0 HM4 HX4 HK4 hEb ⊢
          clear hgv hEb hcl a0 a1 a2 a3 p0 p1 p2 p3 HN2
          go_loopw [10] (fun s wr => ∃ (m : Nat) (d : R4), m ≤ k ∧ s = .int .i64 ((i + 1 + m : Nat) : Int) ∧ IsMat wr gm gs' caps' T ∧ XRow wr gx N k (backX T N k) ∧ Blk wr gv 113 (r4cells d).toArray ∧ IsRat wr d.val (backS T N i (backX T N k) m) ∧ Keep (MatB gm gs N) w wr) (fun s _ => N - (intOf s).toNat)
          case atStart => exact ⟨0, (s0, s1, s2, s3), Nat.zero_le _, by go_num, HM4.out, HX4.out, HBv0.out, HQ0.out, HK4.out⟩
          case round =>
            obtain ⟨m, ⟨s0, s1, s2, s3⟩, hmk, rfl, hmt, hxr, hbv, hsq, hkk⟩ := hrel
            have HM5 := hide hmt; have HX5 := hide hxr; have HBv := hide hbv; have HS5 := hide hsq; have HK5 := hide hkk
            clear hmt hxr hbv hsq hkk
            obtain ⟨wz, hwz⟩ : ∃ w0, w0 = wr := ⟨_, rfl⟩
            subst hwz
            obtain ⟨j, hj⟩ : ∃ j, i + 1 + m = j := ⟨_, rfl⟩
            obtain ⟨s, hs⟩ : ∃ s, backS T N i (backX T N k) m = s := ⟨_, rfl⟩
            have HLs := hide (show RatLen s 4398046511104 by rw [← hs, ← HI.out]; exact HK2.out.sum k hlt m hmk)
            rw [hs] at HS5
            rw [hj]
            have hcl := HM5.out.cell hiT
            rw [HGi.out, HCi0.out, HDT.out.2 i hiN] at hcl
            have hml := HM5.out.ty.lt
            have HC : Hid (∀ W, Ext wz W → W.cell? ⟨gm, i, none⟩ = some (.slice (some ⟨gi, 0, none⟩) (N + 1) ci)) := fun W E => (E.cell (p := ⟨gm, i, none⟩) hml).trans hcl
            have HSq : Hid (∀ W, Ext wz W → IsRat W (.agg #[s0, s1, s2, s3]) s) := fun W E => HS5.out.ext E
            have HJ := hide hj; have HSe := hide hs
            clear hj hs hcl hml
            by_cases hjN : j < N
            · have hmk2 : m < k := by have := HJ.out; omega
              have hjN1 : j < N + 1 := by omega
              obtain ⟨el, ha⟩ : ∃ a, mget T i j = a := ⟨_, rfl⟩
              obtain ⟨x, hx⟩ : ∃ x, (backX T N k).getD j 0 = x := ⟨_, rfl⟩
              have HLa := hide (show RatLen el 4398046511104 by rw [← ha]; exact HK2.out.el i hiN j hjN)
              have HLx := hide (show RatLen x 4398046511104 by rw [← hx, ← HJ.out, ← HI.out]; exact HK2.out.xs k hlt m hmk2)
              have HLax := hide (show RatLen (el * x) 4398046511104 by rw [← ha, ← hx, ← HJ.out, ← HI.out]; exact HK2.out.prod k hlt m hmk2)
              obtain ⟨ra, ha1, ha2⟩ := (HM5.out.row hiT).at (j := j) (by rw [HDT.out.2 i hiN]; omega)
              obtain ⟨rx, hx1, hx2⟩ := HX5.out.at (j := j) (by have := HJ.out; omega) hjN
              rw [show (T.getD i []).getD j 0 = el from ha] at ha2
              rw [hx] at hx2
              have hli := (HM5.out.row hiT).ty.lt
              have hlx := HX5.out.ty.lt
              rw [HGi.out] at ha1 hli
              have HA : Hid (∀ W, Ext wz W → Cell4 W gi (j * 4) ra) := fun W E => ha1.ext hli E
              have HXc : Hid (∀ W, Ext wz W → Cell4 W gx (j * 4) rx) := fun W E => hx1.ext hlx E
              have HAq : Hid (∀ W, Ext wz W → IsRat W ra.val el) := fun W E => ha2.ext E
              have HXq : Hid (∀ W, Ext wz W → IsRat W rx.val x) := fun W E => hx2.ext E
              have HAe := hide ha; have HXe := hide hx
              clear ha hx ha1 ha2 hx1 hx2 hli hlx
              go_wp2_with fail
              obtain ⟨Gs, hGs⟩ : ∃ Gs : List (Value → World → Prop), Gs = [(fun v _ => v = .agg #[s0, s1, s2, s3]), (fun v _ => v = .slice (some ⟨gm, 0, none⟩) N cap), (fun v _ => v = .int .i64 (i : Int)), (fun v _ => v = .pointer (some ⟨gm, i, none⟩)), (fun v _ => v = .slice (some ⟨gi, 0, none⟩) (N + 1) ci), (fun v _ => v = .int .i64 (j : Int)), (fun v _ => v = .pointer (some ⟨gi, j * 4, none⟩)), (fun v _ => v = R4.val ra), (fun v _ => v = .slice (some ⟨gx, 0, none⟩) N N), (fun v _ => v = .int .i64 (j : Int)), (fun v _ => v = .pointer (some ⟨gx, j * 4, none⟩)), (fun v _ => v = R4.val rx), (fun v W => IsRat W v (el * x)), (fun v W => IsRat W v (s - el * x))] := ⟨_, rfl⟩
              have hst : Flow.Stay Ext Gs := by rw [hGs]; exact (Flow.Stay.cons (fun _ _ _ _ h => h) (Flow.Stay.cons (fun _ _ _ _ h => h) (Flow.Stay.cons (fun _ _ _ _ h => h) (Flow.Stay.cons (fun _ _ _ _ h => h) (Flow.Stay.cons (fun _ _ _ _ h => h) (Flow.Stay.cons (fun _ _ _ _ h => h) (Flow.Stay.cons (fun _ _ _ _ h => h) (Flow.Stay.cons (fun _ _ _ _ h => h) (Flow.Stay.cons (fun _ _ _ _ h => h) (Flow.Stay.cons (fun _ _ _ _ h => h) (Flow.Stay.cons (fun _ _ _ _ h => h) (Flow.Stay.cons (fun _ _ _ _ h => h) (Flow.Stay.cons (fun _ _ E _ h => IsRat.ext h E) (Flow.Stay.cons (fun _ _ E _ h => IsRat.ext h E) Flow.Stay.nil))))))))))))))
              refine Flow.wp_region_flow 14 (by kernel_rfl) (fun W => Ext wz W) Gs (by kernel_rfl) (Ext.rfl' wz).drew ?flowsteps ?flowend
              case flowsteps =>
                refine ⟨?_, ?_, ?_, ?_, ?_, ?_, ?_, ?_, ?_, ?_, ?_, ?_, ?_, ?_, trivial⟩
                · refine Flow.step_val rfl fun a W hb hI hd => ?_
                  have h9 : a.eval (.tmp 9) = .pointer (some ⟨gv, 0, none⟩) := hb.pre' 9 (by kernel_rfl)
                  exact ⟨_, run_load4 h9 (by have h := (HBv.out.ext hI).cell 0; exact h) (by have h := (HBv.out.ext hI).cell 1; exact h) (by have h := (HBv.out.ext hI).cell 2; exact h) (by have h := (HBv.out.ext hI).cell 3; exact h), by rw [hGs]; rfl⟩
                · refine Flow.step_val rfl fun a W hb hI hd => ?_
                  have h0 : a.eval (.tmp 0) = .slice (some ⟨gm, 0, none⟩) N cap := hb.pre' 0 (by kernel_rfl)
                  exact ⟨_, rfl, by rw [hGs]; exact h0⟩
                · refine Flow.step_val rfl fun a W hb hI hd => ?_
                  have h8 : a.eval (.tmp 8) = .int .i64 (i : Int) := hb.pre' 8 (by kernel_rfl)
                  exact ⟨_, rfl, by rw [hGs]; exact h8⟩
                · refine Flow.step_val rfl fun a W hb hI hd => ?_
                  have h57 : a.eval (.tmp 57) = .slice (some ⟨gm, 0, none⟩) N cap := by have h := hd _ (Array.mem_of_getElem? (i := 0) rfl) rfl; rw [hGs] at h; exact h
                  have h58 : a.eval (.tmp 58) = .int .i64 (i : Int) := by have h := hd _ (Array.mem_of_getElem? (i := 1) rfl) rfl; rw [hGs] at h; exact h
                  exact ⟨_, run_index152 h57 h58 hiN, by rw [hGs]; rfl⟩
                · refine Flow.step_val rfl fun a W hb hI hd => ?_
                  have h59 : a.eval (.tmp 59) = .pointer (some ⟨gm, i, none⟩) := by have h := hd _ (Array.mem_of_getElem? (i := 0) rfl) rfl; rw [hGs] at h; exact h
                  exact ⟨_, run_load105 h59 (HC.out W hI), by rw [hGs]; rfl⟩
                · refine Flow.step_val rfl fun a W hb hI hd => ?_
                  have h10 : a.eval (.tmp 10) = .int .i64 (j : Int) := hb.pre' 10 (by kernel_rfl)
                  exact ⟨_, rfl, by rw [hGs]; exact h10⟩
                · refine Flow.step_val rfl fun a W hb hI hd => ?_
                  have h60 : a.eval (.tmp 60) = .slice (some ⟨gi, 0, none⟩) (N + 1) ci := by have h := hd _ (Array.mem_of_getElem? (i := 0) rfl) rfl; rw [hGs] at h; exact h
                  have h61 : a.eval (.tmp 61) = .int .i64 (j : Int) := by have h := hd _ (Array.mem_of_getElem? (i := 1) rfl) rfl; rw [hGs] at h; exact h
                  exact ⟨_, run_index105 h60 h61 hjN1, by rw [hGs]; rfl⟩
                · refine Flow.step_val rfl fun a W hb hI hd => ?_
                  have h62 : a.eval (.tmp 62) = .pointer (some ⟨gi, j * 4, none⟩) := by have h := hd _ (Array.mem_of_getElem? (i := 0) rfl) rfl; rw [hGs] at h; exact h
                  exact ⟨_, run_cell4 h62 (HA.out W hI), by rw [hGs]; rfl⟩
                · refine Flow.step_val rfl fun a W hb hI hd => ?_
                  have h7 : a.eval (.tmp 7) = .slice (some ⟨gx, 0, none⟩) N N := hb.pre' 7 (by kernel_rfl)
                  exact ⟨_, rfl, by rw [hGs]; exact h7⟩
                · refine Flow.step_val rfl fun a W hb hI hd => ?_
                  have h10 : a.eval (.tmp 10) = .int .i64 (j : Int) := hb.pre' 10 (by kernel_rfl)
                  exact ⟨_, rfl, by rw [hGs]; exact h10⟩
                · refine Flow.step_val rfl fun a W hb hI hd => ?_
                  have h64 : a.eval (.tmp 64) = .slice (some ⟨gx, 0, none⟩) N N := by have h := hd _ (Array.mem_of_getElem? (i := 0) rfl) rfl; rw [hGs] at h; exact h
                  have h65 : a.eval (.tmp 65) = .int .i64 (j : Int) := by have h := hd _ (Array.mem_of_getElem? (i := 1) rfl) rfl; rw [hGs] at h; exact h
                  exact ⟨_, run_index105 h64 h65 hjN, by rw [hGs]; rfl⟩
                · refine Flow.step_val rfl fun a W hb hI hd => ?_
                  have h66 : a.eval (.tmp 66) = .pointer (some ⟨gx, j * 4, none⟩) := by have h := hd _ (Array.mem_of_getElem? (i := 0) rfl) rfl; rw [hGs] at h; exact h
                  exact ⟨_, run_cell4 h66 (HXc.out W hI), by rw [hGs]; rfl⟩
                · refine Flow.step_call rfl fun a W hb hI hd => ?_
                  have h63 : a.eval (.tmp 63) = R4.val ra := by have h := hd _ (Array.mem_of_getElem? (i := 0) rfl) rfl; rw [hGs] at h; exact h
                  have h67 : a.eval (.tmp 67) = R4.val rx := by have h := hd _ (Array.mem_of_getElem? (i := 1) rfl) rfl; rw [hGs] at h; exact h
                  refine ⟨66, #[a.eval (.tmp 63), a.eval (.tmp 67)], Flow.run_enter (enters_of Tryz.func66 (by kernel_rfl) rfl) (by simp), ?_⟩
                  rw [h63, h67]
                  refine (mul_rat _ _ el x W (HAq.out W hI) (HXq.out W hI) HLa.out HLx.out).mono ?_
                  rintro e w' ⟨v, rfl, hm, hE⟩
                  exact ⟨v, rfl, by rw [hGs]; exact hm, hI.tr hE, hst.at hE⟩
                · refine Flow.step_call rfl fun a W hb hI hd => ?_
                  have h56 : a.eval (.tmp 56) = .agg #[s0, s1, s2, s3] := by have h := hd _ (Array.mem_of_getElem? (i := 0) rfl) rfl; rw [hGs] at h; exact h
                  have h68 : (fun v W => IsRat W v (el * x)) (a.eval (.tmp 68)) W := by have h := hd _ (Array.mem_of_getElem? (i := 1) rfl) rfl; rw [hGs] at h; exact h
                  refine ⟨61, #[a.eval (.tmp 56), a.eval (.tmp 68)], Flow.run_enter (enters_of Tryz.func61 (by kernel_rfl) rfl) (by simp), ?_⟩
                  rw [h56]
                  refine (sub_rat _ _ s (el * x) W (HSq.out W hI) h68 HLs.out HLax.out).mono ?_
                  rintro e w' ⟨v, rfl, hm, hE⟩
                  exact ⟨v, rfl, by rw [hGs]; exact hm, hI.tr hE, hst.at hE⟩
              case flowend =>
                rw [hGs]
                refine fun W hI v0 h0 v1 h1 v2 h2 v3 h3 v4 h4 v5 h5 v6 h6 v7 h7 v8 h8 v9 h9 v10 h10 v11 h11 v12 h12 v13 h13 => ?_
                obtain rfl : .agg #[s0, s1, s2, s3] = v0 := Eq.symm h0; clear h0
                obtain rfl : .slice (some ⟨gm, 0, none⟩) N cap = v1 := Eq.symm h1; clear h1
                obtain rfl : .int .i64 (i : Int) = v2 := Eq.symm h2; clear h2
                obtain rfl : .pointer (some ⟨gm, i, none⟩) = v3 := Eq.symm h3; clear h3
                obtain rfl : .slice (some ⟨gi, 0, none⟩) (N + 1) ci = v4 := Eq.symm h4; clear h4
                obtain rfl : .int .i64 (j : Int) = v5 := Eq.symm h5; clear h5
                obtain rfl : .pointer (some ⟨gi, j * 4, none⟩) = v6 := Eq.symm h6; clear h6
                obtain rfl : R4.val ra = v7 := Eq.symm h7; clear h7
                obtain rfl : .slice (some ⟨gx, 0, none⟩) N N = v8 := Eq.symm h8; clear h8
                obtain rfl : .int .i64 (j : Int) = v9 := Eq.symm h9; clear h9
                obtain rfl : .pointer (some ⟨gx, j * 4, none⟩) = v10 := Eq.symm h10; clear h10
                obtain rfl : R4.val rx = v11 := Eq.symm h11; clear h11
                replace h12 : (fun v W => IsRat W v (el * x)) v12 W := h12
                replace h13 : (fun v W => IsRat W v (s - el * x)) v13 W := h13
                clear hst hGs
                show wpList _ _ _ _ _ _
                simp only [List.drop_succ_cons, List.drop_zero, Act.put, List.setIfInBounds_toArray, List.set_cons_zero, List.set_cons_succ]
                obtain ⟨y0, y1, y2, y3, rfl, HY, p0, p1, p2, p3⟩ := h13.cells4
                clear h12 h13
                replace p0 := st_any p0
                replace p1 := st_any p1
                replace p2 := st_any p2
                replace p3 := st_any p3
                have C := HBv.out.ext hI
                have e0 := C.cell 0
                have e1 := C.cell 1
                have e2 := C.cell 2
                have e3 := C.cell 3
                have f0 := C.frozen 0
                have f1 := C.frozen 1
                have f2 := C.frozen 2
                have f3 := C.frozen 3
                simp [r4cells] at e0 e1 e2 e3
                have hKv : Keep (fun b => b = gv) W (rput4 W gv 0 (y0, y1, y2, y3)) := Keep.rput4 (S := fun b => b = gv) (Keep.refl _ W) (.inl rfl) _
                have hNv : NoDigits W (fun b => b = gv) := fun b hb => ⟨113, by rw [hb]; exact C.ty, by decide⟩
                have hM6 := (HM5.out.ext hI).keep hKv (fun b hb hB => by
                  subst hb
                  rcases hB with h | ⟨q, hq, h⟩
                  · exact HGv.out.1 h
                  · exact HGv.out.2.1 q (by rw [← HDT.out.1]; exact hq) h) hNv
                have hX6 := (HX5.out.ext hI).keep hKv (fun e => HGv.out.2.2.1 e.symm) hNv
                have hB6 := C.rputAll (y0, y1, y2, y3)
                have hQ6 := HY.out.keep hKv hNv
                have hK6 : Keep (MatB gm gs N) w (rput4 W gv 0 (y0, y1, y2, y3)) := Keep.rput4 (HK5.out.trans (Keep.ext hI)) (.inr HGv.out.2.2.2) _
                have hw8 : ∃ w8, (((W.setCell ⟨gv, 0, none⟩ y0).setCell ⟨gv, 1, none⟩ y1).setCell ⟨gv, 2, none⟩ y2).setCell ⟨gv, 3, none⟩ y3 = w8 ∧ w8 = rput4 W gv 0 (y0, y1, y2, y3) := ⟨_, rfl, rfl⟩
                obtain ⟨w8, hw8, hw8'⟩ := hw8
                rw [← hw8'] at hM6 hX6 hB6 hQ6 hK6
                have HM6 := hide hM6; have HX6 := hide hX6; have HB6 := hide hB6; have HQ6 := hide hQ6; have HK6 := hide hK6
                clear hM6 hX6 hB6 hQ6 hK6 hw8' hKv hNv C
                go_wp2_with fail
                clear hw8 e0 e1 e2 e3 f0 f1 f2 f3
                go_roundw
                case rel =>
                  refine ⟨m + 1, (y0, y1, y2, y3), by omega, by rw [← HJ.out]; go_num, HM6.out, HX6.out, HB6.out, ?_, HK6.out⟩
                  have h := HQ6.out
                  rw [← HSe.out, ← HAe.out, ← HXe.out, ← HJ.out] at h
                  exact h
                case measure => simp [intOf]; omega
            · have hmk3 : m = k := by have := HJ.out; omega
              obtain ⟨el, ha⟩ : ∃ a, mget T i i = a := ⟨_, rfl⟩
              have HLa := hide (show RatLen el 4398046511104 by rw [← ha]; exact HK2.out.el i hiN i hiN)
              have HPne := hide (show el ≠ 0 by rw [← ha]; exact HK2.out.piv i hiN)
              obtain ⟨ra, ha1, ha2⟩ := (HM5.out.row hiT).at (j := i) (by rw [HDT.out.2 i hiN]; omega)
              rw [show (T.getD i []).getD i 0 = el from ha] at ha2
              have hli := (HM5.out.row hiT).ty.lt
              rw [HGi.out] at ha1 hli
              have HA : Hid (∀ W, Ext wz W → Cell4 W gi (i * 4) ra) := fun W E => ha1.ext hli E
              have HAq : Hid (∀ W, Ext wz W → IsRat W ra.val el) := fun W E => ha2.ext E
              have HAe := hide ha; have HMk := hide hmk3
              clear ha ha1 ha2 hli hmk3
              go_wp2_with fail
              obtain ⟨Gs, hGs⟩ : ∃ Gs : List (Value → World → Prop), Gs = [(fun v _ => v = .slice (some ⟨gx, 0, none⟩) N N), (fun v _ => v = .int .i64 (i : Int)), (fun v _ => v = .agg #[s0, s1, s2, s3]), (fun v _ => v = .slice (some ⟨gm, 0, none⟩) N cap), (fun v _ => v = .int .i64 (i : Int)), (fun v _ => v = .pointer (some ⟨gm, i, none⟩)), (fun v _ => v = .slice (some ⟨gi, 0, none⟩) (N + 1) ci), (fun v _ => v = .int .i64 (i : Int)), (fun v _ => v = .pointer (some ⟨gi, i * 4, none⟩)), (fun v _ => v = R4.val ra), (fun v W => IsRat W v (s / el)), (fun v _ => v = .pointer (some ⟨gx, i * 4, none⟩))] := ⟨_, rfl⟩
              have hst : Flow.Stay Ext Gs := by rw [hGs]; exact (Flow.Stay.cons (fun _ _ _ _ h => h) (Flow.Stay.cons (fun _ _ _ _ h => h) (Flow.Stay.cons (fun _ _ _ _ h => h) (Flow.Stay.cons (fun _ _ _ _ h => h) (Flow.Stay.cons (fun _ _ _ _ h => h) (Flow.Stay.cons (fun _ _ _ _ h => h) (Flow.Stay.cons (fun _ _ _ _ h => h) (Flow.Stay.cons (fun _ _ _ _ h => h) (Flow.Stay.cons (fun _ _ _ _ h => h) (Flow.Stay.cons (fun _ _ _ _ h => h) (Flow.Stay.cons (fun _ _ E _ h => IsRat.ext h E) (Flow.Stay.cons (fun _ _ _ _ h => h) Flow.Stay.nil))))))))))))
              refine Flow.wp_region_flow 12 (by kernel_rfl) (fun W => Ext wz W) Gs (by kernel_rfl) (Ext.rfl' wz).drew ?flowsteps ?flowend
              case flowsteps =>
                refine ⟨?_, ?_, ?_, ?_, ?_, ?_, ?_, ?_, ?_, ?_, ?_, ?_, trivial⟩
                · refine Flow.step_val rfl fun a W hb hI hd => ?_
                  have h7 : a.eval (.tmp 7) = .slice (some ⟨gx, 0, none⟩) N N := hb.pre' 7 (by kernel_rfl)
                  exact ⟨_, rfl, by rw [hGs]; exact h7⟩
                · refine Flow.step_val rfl fun a W hb hI hd => ?_
                  have h8 : a.eval (.tmp 8) = .int .i64 (i : Int) := hb.pre' 8 (by kernel_rfl)
                  exact ⟨_, rfl, by rw [hGs]; exact h8⟩
                · refine Flow.step_val rfl fun a W hb hI hd => ?_
                  have h9 : a.eval (.tmp 9) = .pointer (some ⟨gv, 0, none⟩) := hb.pre' 9 (by kernel_rfl)
                  exact ⟨_, run_load4 h9 (by have h := (HBv.out.ext hI).cell 0; exact h) (by have h := (HBv.out.ext hI).cell 1; exact h) (by have h := (HBv.out.ext hI).cell 2; exact h) (by have h := (HBv.out.ext hI).cell 3; exact h), by rw [hGs]; rfl⟩
                · refine Flow.step_val rfl fun a W hb hI hd => ?_
                  have h0 : a.eval (.tmp 0) = .slice (some ⟨gm, 0, none⟩) N cap := hb.pre' 0 (by kernel_rfl)
                  exact ⟨_, rfl, by rw [hGs]; exact h0⟩
                · refine Flow.step_val rfl fun a W hb hI hd => ?_
                  have h8 : a.eval (.tmp 8) = .int .i64 (i : Int) := hb.pre' 8 (by kernel_rfl)
                  exact ⟨_, rfl, by rw [hGs]; exact h8⟩
                · refine Flow.step_val rfl fun a W hb hI hd => ?_
                  have h73 : a.eval (.tmp 73) = .slice (some ⟨gm, 0, none⟩) N cap := by have h := hd _ (Array.mem_of_getElem? (i := 0) rfl) rfl; rw [hGs] at h; exact h
                  have h74 : a.eval (.tmp 74) = .int .i64 (i : Int) := by have h := hd _ (Array.mem_of_getElem? (i := 1) rfl) rfl; rw [hGs] at h; exact h
                  exact ⟨_, run_index152 h73 h74 hiN, by rw [hGs]; rfl⟩
                · refine Flow.step_val rfl fun a W hb hI hd => ?_
                  have h75 : a.eval (.tmp 75) = .pointer (some ⟨gm, i, none⟩) := by have h := hd _ (Array.mem_of_getElem? (i := 0) rfl) rfl; rw [hGs] at h; exact h
                  exact ⟨_, run_load105 h75 (HC.out W hI), by rw [hGs]; rfl⟩
                · refine Flow.step_val rfl fun a W hb hI hd => ?_
                  have h8 : a.eval (.tmp 8) = .int .i64 (i : Int) := hb.pre' 8 (by kernel_rfl)
                  exact ⟨_, rfl, by rw [hGs]; exact h8⟩
                · refine Flow.step_val rfl fun a W hb hI hd => ?_
                  have h76 : a.eval (.tmp 76) = .slice (some ⟨gi, 0, none⟩) (N + 1) ci := by have h := hd _ (Array.mem_of_getElem? (i := 0) rfl) rfl; rw [hGs] at h; exact h
                  have h77 : a.eval (.tmp 77) = .int .i64 (i : Int) := by have h := hd _ (Array.mem_of_getElem? (i := 1) rfl) rfl; rw [hGs] at h; exact h
                  exact ⟨_, run_index105 h76 h77 hiN1, by rw [hGs]; rfl⟩
                · refine Flow.step_val rfl fun a W hb hI hd => ?_
                  have h78 : a.eval (.tmp 78) = .pointer (some ⟨gi, i * 4, none⟩) := by have h := hd _ (Array.mem_of_getElem? (i := 0) rfl) rfl; rw [hGs] at h; exact h
                  exact ⟨_, run_cell4 h78 (HA.out W hI), by rw [hGs]; rfl⟩
                · refine Flow.step_call rfl fun a W hb hI hd => ?_
                  have h72 : a.eval (.tmp 72) = .agg #[s0, s1, s2, s3] := by have h := hd _ (Array.mem_of_getElem? (i := 0) rfl) rfl; rw [hGs] at h; exact h
                  have h79 : a.eval (.tmp 79) = R4.val ra := by have h := hd _ (Array.mem_of_getElem? (i := 1) rfl) rfl; rw [hGs] at h; exact h
                  refine ⟨69, #[a.eval (.tmp 72), a.eval (.tmp 79)], Flow.run_enter (enters_of Tryz.func69 (by kernel_rfl) rfl) (by simp), ?_⟩
                  rw [h72, h79]
                  refine (div_rat _ _ s el W (HSq.out W hI) (HAq.out W hI) HPne.out HLs.out HLa.out).mono ?_
                  rintro e w' ⟨v, rfl, hm, hE⟩
                  exact ⟨v, rfl, by rw [hGs]; exact hm, hI.tr hE, hst.at hE⟩
                · refine Flow.step_val rfl fun a W hb hI hd => ?_
                  have h70 : a.eval (.tmp 70) = .slice (some ⟨gx, 0, none⟩) N N := by have h := hd _ (Array.mem_of_getElem? (i := 0) rfl) rfl; rw [hGs] at h; exact h
                  have h71 : a.eval (.tmp 71) = .int .i64 (i : Int) := by have h := hd _ (Array.mem_of_getElem? (i := 1) rfl) rfl; rw [hGs] at h; exact h
                  exact ⟨_, run_index105 h70 h71 hiN, by rw [hGs]; rfl⟩
              case flowend =>
                rw [hGs]
                refine fun W hI v0 h0 v1 h1 v2 h2 v3 h3 v4 h4 v5 h5 v6 h6 v7 h7 v8 h8 v9 h9 v10 h10 v11 h11 => ?_
                obtain rfl : .slice (some ⟨gx, 0, none⟩) N N = v0 := Eq.symm h0; clear h0
                obtain rfl : .int .i64 (i : Int) = v1 := Eq.symm h1; clear h1
                obtain rfl : .agg #[s0, s1, s2, s3] = v2 := Eq.symm h2; clear h2
                obtain rfl : .slice (some ⟨gm, 0, none⟩) N cap = v3 := Eq.symm h3; clear h3
                obtain rfl : .int .i64 (i : Int) = v4 := Eq.symm h4; clear h4
                obtain rfl : .pointer (some ⟨gm, i, none⟩) = v5 := Eq.symm h5; clear h5
                obtain rfl : .slice (some ⟨gi, 0, none⟩) (N + 1) ci = v6 := Eq.symm h6; clear h6
                obtain rfl : .int .i64 (i : Int) = v7 := Eq.symm h7; clear h7
                obtain rfl : .pointer (some ⟨gi, i * 4, none⟩) = v8 := Eq.symm h8; clear h8
                obtain rfl : R4.val ra = v9 := Eq.symm h9; clear h9
                replace h10 : (fun v W => IsRat W v (s / el)) v10 W := h10
                obtain rfl : .pointer (some ⟨gx, i * 4, none⟩) = v11 := Eq.symm h11; clear h11
                clear hst hGs
                show wpList _ _ _ _ _ _
                simp only [List.drop_succ_cons, List.drop_zero, Act.put, List.setIfInBounds_toArray, List.set_cons_zero, List.set_cons_succ]
                obtain ⟨y0, y1, y2, y3, rfl, HY, p0, p1, p2, p3⟩ := h10.cells4
                clear h10
                replace p0 := st_any p0
                replace p1 := st_any p1
                replace p2 := st_any p2
                replace p3 := st_any p3
                have C := HX5.out.ext hI
                obtain ⟨⟨o0, o1, o2, o3⟩, ⟨e0, e1, e2, e3⟩⟩ := C.old hiN
                have f0 := C.frozen (i * 4)
                have f1 := C.frozen (i * 4 + 1)
                have f2 := C.frozen (i * 4 + 2)
                have f3 := C.frozen (i * 4 + 3)
                have hput := C.put hlt (backX_length T N k) HY.out
                rw [HI.out] at hput
                have hKx : Keep (fun b => b = gx) W (rput4 W gx (i * 4) (y0, y1, y2, y3)) := Keep.rput4 (S := fun b => b = gx) (Keep.refl _ W) (.inl rfl) _
                have hNx : NoDigits W (fun b => b = gx) := fun b hb => ⟨113, by rw [hb]; exact C.ty, by decide⟩
                have hM6 := (HM5.out.ext hI).keep hKx (fun b hb hB => by
                  subst hb
                  rcases hB with h | ⟨q, hq, h⟩
                  · exact HGx.out.1 h
                  · exact HGx.out.2 q (by rw [← HDT.out.1]; exact hq) h) hNx
                have hK6 : Keep (MatB gm gs N) w (rput4 W gx (i * 4) (y0, y1, y2, y3)) := Keep.rput4 (HK5.out.trans (Keep.ext hI)) (.inr hgxw) _
                have hw8 : ∃ w8, (((W.setCell ⟨gx, i * 4, none⟩ y0).setCell ⟨gx, i * 4 + 1, none⟩ y1).setCell ⟨gx, i * 4 + 2, none⟩ y2).setCell ⟨gx, i * 4 + 3, none⟩ y3 = w8 ∧ w8 = rput4 W gx (i * 4) (y0, y1, y2, y3) := ⟨_, rfl, rfl⟩
                obtain ⟨w8, hw8, hw8'⟩ := hw8
                rw [← hw8'] at hput hM6 hK6
                have HM6 := hide hM6; have HX6 := hide hput; have HK6 := hide hK6
                clear hM6 hput hK6 hw8' hKx hNx C
                go_wp2_with fail
                clear hw8 e0 e1 e2 e3 f0 f1 f2 f3
                go_roundw
                case rel =>
                  refine ⟨k + 1, by omega, by rw [← HIJ.out]; go_num, HM6.out, ?_, HK6.out⟩
                  have h := HX6.out
                  rw [← HSe.out, ← HAe.out, HMk.out, ← HI.out] at h
                  exact h
                case measure =>
                  have := HIJ.out
                  simp [intOf] <;> omega
        · obtain rfl : k = N := by omega
          have hneg : (k : Int) - 1 - k = -1 := by omega
          rw [hneg]
          have hfull := HX3.out.full (backX_length T k k) (by omega)
          have HF := hide hfull
          clear hfull hneg
          go_wp2_with fail
          go_ret
          exact ⟨gx, rfl, hgxw, by rw [HSo.out]; exact HF.out, HK3.out⟩

end Go.Proofs.YtncabodphjkkfaaGreat
