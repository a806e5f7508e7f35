/- Elimination. Conditions: the pivots are not 0, the fractions fit into a machine. -/
import Derived.Test.YtncabodphjkkfaaGreatM4
import Derived.Test.YtncabodphjkkfaaGreatTri
namespace Go.Proofs.YtncabodphjkkfaaGreat
open Go.RowKit Go.Limbs Go.Shelf

/-- What elimination keeps besides the matrix. -/
def TriSt (w : World) (gs : Nat → Nat) (N gd : Nat) (d : R4) (det : Rat) (W : World) : Prop :=
  Blk W gd 113 (r4cells d).toArray ∧ IsRat W d.val det ∧ Blk W w.heap.size 113 #[.bool false, .slice none 0 0, .bool false, .slice none 0 0] ∧ Keep (RowB gs N) w W
section
variable {w W W' : World} {gs caps : Nat → Nat} {N gd gm : Nat} {d : R4} {det : Rat}
theorem TriSt.ext (h : TriSt w gs N gd d det W) (E : Ext W W') : TriSt w gs N gd d det W' :=
  ⟨h.1.ext E, h.2.1.ext E, h.2.2.1.ext E, h.2.2.2.trans (Keep.ext E)⟩
theorem TriSt.row (h : TriSt w gs N gd d det W) (hg : w.heap.size ≤ gd) {i : Nat} (hi : i < N) (hgs : gs i < w.heap.size) (ht : TyBlk W (gs i) 113) (o : Nat) (r : R4) : TriSt w gs N gd d det (rput4 W (gs i) o r) := by
  have hK : Keep (fun b => b = gs i) W (rput4 W (gs i) o r) := Keep.rput4 (S := fun b => b = gs i) (Keep.refl _ W) (.inl rfl) r
  have hN : NoDigits W (fun b => b = gs i) := fun b hb => ⟨113, by rw [hb]; exact ht, by decide⟩
  exact ⟨h.1.keep hK (fun e => by omega), h.2.1.keep hK hN, h.2.2.1.keep hK (fun e => by omega), h.2.2.2.trans (hK.mono fun b hb => ⟨i, hi, hb⟩)⟩
theorem Ext.rput4 {a b : World} (E : Ext a b) {g : Nat} (hg : a.heap.size ≤ g) (o : Nat) (r : R4) : Ext a (Go.Proofs.YtncabodphjkkfaaGreat.rput4 b g o r) :=
  (((E.setCell (p := ⟨g, o, none⟩) hg _).setCell (p := ⟨g, o + 1, none⟩) hg _).setCell (p := ⟨g, o + 2, none⟩) hg _).setCell (p := ⟨g, o + 3, none⟩) hg _
theorem IsRat.rput4 {W : World} {v : Value} {q : Rat} (h : IsRat W v q) {g : Nat} (hg : TyBlk W g 113) (o : Nat) (r : R4) : IsRat (Go.Proofs.YtncabodphjkkfaaGreat.rput4 W g o r) v q :=
  h.keep (Keep.rput4 (S := fun b => b = g) (Keep.refl _ W) (.inl rfl) r) (fun b hb => ⟨113, by rw [hb]; exact hg, by decide⟩)
theorem Blk.rputAll {W : World} {g : Nat} {d : R4} (h : Blk W g 113 (r4cells d).toArray) (y : R4) : Blk (Go.Proofs.YtncabodphjkkfaaGreat.rput4 W g 0 y) g 113 (r4cells y).toArray := by
  have h' := h.rput4 0 y
  have e : ((((((r4cells d).toArray.setIfInBounds 0 y.1).setIfInBounds (0 + 1) y.2.1).setIfInBounds (0 + 2) y.2.2.1).setIfInBounds (0 + 3) y.2.2.2)) = (r4cells y).toArray := by simp [r4cells]
  rw [← e]; exact h'
theorem run_alloc113 {W : World} {ρ : Operand → Value} {dst : Option Tmp} {ty : TypeId} {pos : String} {after : Array Edge} {guard : Option (Nat × Bool)} :
    (execOp ρ { dst, op := .alloc 113, type := ty, pos, after, guard }).run Tryz.prog W = .ok (.value (.pointer (some ⟨W.heap.size, 0, none⟩))) (W.alloc (.cells #[.bool false, .slice none 0 0, .bool false, .slice none 0 0] 113)) := by
  simp [go_sem, execOp]
theorem TriSt.putDet (h : TriSt w gs N gd d det W) (hg : w.heap.size < gd) {y : R4} {det' : Rat} (hy : IsRat W y.val det') : TriSt w gs N gd y det' (rput4 W gd 0 y) := by
  have hK : Keep (fun b => b = gd) W (rput4 W gd 0 y) := Keep.rput4 (S := fun b => b = gd) (Keep.refl _ W) (.inl rfl) y
  have hN : NoDigits W (fun b => b = gd) := fun b hb => ⟨113, by rw [hb]; exact h.1.ty, by decide⟩
  refine ⟨?_, hy.keep hK hN, h.2.2.1.keep hK (fun e => by omega), Keep.rput4 h.2.2.2 (.inr (by omega)) y⟩
  have h' := h.1.rput4 0 y
  have e : ((((((r4cells d).toArray.setIfInBounds 0 y.1).setIfInBounds (0 + 1) y.2.1).setIfInBounds (0 + 2) y.2.2.1).setIfInBounds (0 + 3) y.2.2.2)) = (r4cells y).toArray := by simp [r4cells]
  rw [← e]; exact h'
theorem TriSt.mat (h : TriSt w gs N gd d det W) (hg : w.heap.size < gd) {rows : List (List Rat)} (hm : IsMat W gm gs caps rows) (hl : rows.length = N) (hgm : gm < w.heap.size) (hgs : ∀ i, i < N → gs i < w.heap.size) (y : R4) : IsMat (rput4 W gd 0 y) gm gs caps rows :=
  hm.keep (Keep.rput4 (S := fun b => b = gd) (Keep.refl _ W) (.inl rfl) y) (fun b hb hB => by
    subst hb
    rcases hB with h | ⟨i, hi, h⟩
    · omega
    · have := hgs i (by omega); omega) (fun b hb => ⟨113, by rw [hb]; exact h.1.ty, by decide⟩)
theorem rat_sign_zero (q : Rat) : (q.num.sign == 0) = decide (q = 0) := by
  by_cases h : q = 0
  · subst h; rfl
  · have : q.num ≠ 0 := fun e => h (Rat.num_eq_zero.1 e)
    rw [decide_eq_false h]
    simpa [Int.sign_eq_zero_iff_zero] using h
end

set_option maxRecDepth 100000 in
set_option maxHeartbeats 8000000 in
theorem triangle_any (gm N M cap : Nat) (gs caps : Nat → Nat) (rows : List (List Rat)) (w : World) (hm : IsMat w gm gs caps rows) (ht : TriOk rows N M 4398046511104) (hN : N ≤ 1048576) (hM : M ≤ 1048576) :
    Calls Tryz.prog 134 #[.slice (some ⟨gm, 0, none⟩) N cap] w fun e w' => ∃ v, e = .returned v ∧ IsMat w' gm gs caps (elimTo rows N) ∧ Keep (RowB gs N) w w' := by
  have HM0 := hide hm; have HT := hide ht
  have hgml := hm.ty.lt
  have HGs : Hid (∀ i, i < N → gs i < w.heap.size) := fun i hi => (hm.row (by rw [ht.dim.1]; exact hi)).ty.lt
  have hNM := ht.fits
  clear hm ht
  go_enter Tryz.func134, Tryz.ntmps134
  go_wp2_with fail
  have hE0 : Ext w (w.alloc (.cells #[.bool false, .slice none 0 0, .bool false, .slice none 0 0] 113)) := (Below.refl _ _).alloc (Nat.le_refl _) _
  have hB0 : Blk (w.alloc (.cells #[.bool false, .slice none 0 0, .bool false, .slice none 0 0] 113)) w.heap.size 113 #[.bool false, .slice none 0 0, .bool false, .slice none 0 0] := Blk.new _ _ _
  generalize w.alloc (.cells #[.bool false, .slice none 0 0, .bool false, .slice none 0 0] 113) = wa at hE0 hB0 ⊢
  refine (whole_any 1 wa (by decide) (by decide)).mono ?_
  rintro e w1 ⟨v, rfl, hv, E1⟩
  obtain ⟨r0, r1, r2, r3, rfl, HV, o0, o1, o2, o3⟩ := hv.cells4
  replace o0 := st_any o0
  replace o1 := st_any o1
  replace o2 := st_any o2
  replace o3 := st_any o3
  have HE1 := hide (hE0.tr E1)
  have HB1 := hide (hB0.ext E1)
  have hlt1 := (hB0.ext E1).lt
  clear hE0 E1 hB0 hv
  go_wp2_with fail
  obtain ⟨gd, hgd⟩ : ∃ gd, w1.heap.size = gd := ⟨_, rfl⟩
  have HSt : Hid (TriSt w gs N gd (r0, r1, r2, r3) (detTo rows 0) (w1.alloc (.cells #[r0, r1, r2, r3] 113))) := by
    have hEa : Ext w1 (w1.alloc (.cells #[r0, r1, r2, r3] 113)) := (Below.refl _ _).alloc (Nat.le_refl _) _
    exact ⟨Blk.new' _ _ _ _ hgd.symm, HV.out.ext hEa, HB1.out.ext hEa, Keep.ext (HE1.out.tr hEa)⟩
  have HMt : Hid (IsMat (w1.alloc (.cells #[r0, r1, r2, r3] 113)) gm gs caps (elimTo rows 0)) := HM0.out.ext (HE1.out.tr ((Below.refl _ _).alloc (Nat.le_refl _) _))
  have hgdw : w.heap.size < gd := by rw [← hgd]; exact hlt1
  rw [hgd]
  generalize w1.alloc (.cells #[r0, r1, r2, r3] 113) = w2 at HSt HMt ⊢
  clear hgd HV HB1 hlt1 o0 o1 o2 o3
  go_loopw [12] (fun s wr => ∃ (c : Nat) (d : R4), c ≤ N ∧ s = .int .i64 (c : Int) ∧ IsMat wr gm gs caps (elimTo rows c) ∧ TriSt w gs N gd d (detTo rows c) wr) (fun s _ => N - (intOf s).toNat)
  case atStart => exact ⟨0, (r0, r1, r2, r3), Nat.zero_le _, rfl, HMt.out, HSt.out⟩
  case round =>
    obtain ⟨c, ⟨d0, d1, d2, d3⟩, hcN, rfl, hmt, hst⟩ := hrel
    have HM := hide hmt; have HS := hide hst
    clear hmt hst
    by_cases hlt : c < N
    · obtain ⟨A, hA⟩ : ∃ A, elimTo rows c = A := ⟨_, rfl⟩
      obtain ⟨dt, hdt⟩ : ∃ d, detTo rows c = d := ⟨_, rfl⟩
      obtain ⟨pv, hpv⟩ : ∃ p, mget A c c = p := ⟨_, rfl⟩
      have HDim := hide (show Dim A N M by rw [← hA]; exact HT.out.dim.to c)
      have HPne := hide (show pv ≠ 0 by rw [← hpv, ← hA]; exact HT.out.piv c hlt)
      have HL1 := hide (show RatLen dt 4398046511104 by rw [← hdt]; exact HT.out.det c hlt)
      have HL2 := hide (show RatLen pv 4398046511104 by rw [← hpv, ← hA]; exact HT.out.el c hlt c hlt c (by omega))
      rw [hA] at HM
      rw [hdt] at HS
      obtain ⟨gc, hgc⟩ : ∃ g, gs c = g := ⟨_, rfl⟩
      obtain ⟨cc, hcc⟩ : ∃ g, caps c = g := ⟨_, rfl⟩
      have hcM : c < M := by omega
      have hcA : c < A.length := by rw [HDim.out.1]; exact hlt
      obtain ⟨rc, hrc1, hrc2⟩ := (HM.out.row hcA).at (j := c) (by rw [HDim.out.2 c hlt]; exact hcM)
      have hcl := HM.out.cell hcA
      have hcl2 := (HM.out.row hcA).ty.lt
      rw [hgc, hcc, HDim.out.2 c hlt] at hcl
      rw [hgc] at hrc1 hcl2
      have hml := HM.out.ty.lt
      have HC : Hid (∀ W, Ext wr W → W.cell? ⟨gm, c, none⟩ = some (.slice (some ⟨gc, 0, none⟩) M cc)) := fun W E => (E.cell (p := ⟨gm, c, none⟩) hml).trans hcl
      have HA : Hid (∀ W, Ext wr W → Cell4 W gc (c * 4) rc) := fun W E => hrc1.ext hcl2 E
      have HP : Hid (∀ W, Ext wr W → IsRat W rc.val pv) := fun W E => by rw [← hpv]; exact hrc2.ext E
      have HAe := hide hA; have HDe := hide hdt; have HPe := hide hpv; have HGc := hide hgc; have HCc0 := hide hcc
      have t1 : ((c : Int) == (N : Int)) = false := by simp; omega
      clear hA hdt hpv hgc hcc hrc1 hrc2 hcl hml hcl2
      obtain ⟨w3, hw3⟩ : ∃ w0, w0 = wr := ⟨_, rfl⟩
      subst hw3
      go_wp2_with fail
      go_loopw [5] (fun s wq => s = .int .i64 (c : Int) ∧ Ext w3 wq) (fun _ _ => 0)
      case atStart => exact ⟨rfl, Ext.rfl' _⟩
      case round =>
      obtain ⟨rfl, hEr⟩ := hrel
      obtain ⟨w4, hw4⟩ : ∃ w0, w0 = wr := ⟨_, rfl⟩
      subst hw4
      have hc1 := HC.out w4 hEr
      obtain ⟨a0, a1, a2, a3⟩ := HA.out w4 hEr
      have HSg := hide (sign_rat _ pv w4 (HP.out w4 hEr))
      obtain ⟨sg, hsg⟩ : ∃ s, pv.num.sign = s := ⟨_, rfl⟩
      rw [hsg] at HSg
      have t2 : (sg == 0) = false := by rw [← hsg, rat_sign_zero, decide_eq_false HPne.out]
      clear hsg
      go_wp2_with fail
      refine HSg.out.mono ?_
      rintro e wq ⟨rfl, E4⟩
      have HEq := hide (hEr.tr E4)
      clear hc1 a0 a1 a2 a3 HSg E4 hEr
      have HBd := hide (HS.out.1.ext HEq.out)
      have HBd0 := HBd.out
      have HD : Hid (∀ W, Ext wq W → IsRat W (.agg #[d0, d1, d2, d3]) dt) := fun W E => (HS.out.2.1.ext HEq.out).ext E
      replace HC : Hid (∀ W, Ext wq W → W.cell? ⟨gm, c, none⟩ = some (.slice (some ⟨gc, 0, none⟩) M cc)) := fun W E => HC.out W (HEq.out.tr E)
      replace HA : Hid (∀ W, Ext wq W → Cell4 W gc (c * 4) rc) := fun W E => HA.out W (HEq.out.tr E)
      replace HP : Hid (∀ W, Ext wq W → IsRat W rc.val pv) := fun W E => HP.out W (HEq.out.tr E)
      clear HBd0
      go_wp2_with fail
      obtain ⟨Gs, hGs⟩ : ∃ Gs : List (Value → World → Prop), Gs = [(fun v _ => v = .agg #[d0, d1, d2, d3]), (fun v _ => v = .slice (some ⟨gm, 0, none⟩) N cap), (fun v _ => v = .int .i64 (c : Int)), (fun v _ => v = .pointer (some ⟨gm, c, none⟩)), (fun v _ => v = .slice (some ⟨gc, 0, none⟩) M cc), (fun v _ => v = .int .i64 (c : Int)), (fun v _ => v = .pointer (some ⟨gc, c * 4, none⟩)), (fun v _ => v = R4.val rc), (fun v W => IsRat W v (dt * pv))] := ⟨_, rfl⟩
      have hst : Flow.Stay Ext Gs := by rw [hGs]; exact (Flow.Stay.cons (fun _ _ _ _ h => h) (Flow.Stay.cons (fun _ _ _ _ h => h) (Flow.Stay.cons (fun _ _ _ _ h => h) (Flow.Stay.cons (fun _ _ _ _ h => h) (Flow.Stay.cons (fun _ _ _ _ h => h) (Flow.Stay.cons (fun _ _ _ _ h => h) (Flow.Stay.cons (fun _ _ _ _ h => h) (Flow.Stay.cons (fun _ _ _ _ h => h) (Flow.Stay.cons (fun _ _ E _ h => IsRat.ext h E) Flow.Stay.nil)))))))))
      refine Flow.wp_region_flow 9 (by kernel_rfl) (fun W => Ext wq W) Gs (by kernel_rfl) (Ext.rfl' wq).drew ?flowsteps ?flowend
      case flowsteps =>
        refine ⟨?_, ?_, ?_, ?_, ?_, ?_, ?_, ?_, ?_, trivial⟩
        · refine Flow.step_val rfl fun a W hb hI hd => ?_
          have h3 : a.eval (.tmp 3) = .pointer (some ⟨gd, 0, none⟩) := hb.pre' 3 (by kernel_rfl)
          exact ⟨_, run_load4 h3 (by have h := (HBd.out.ext hI).cell 0; exact h) (by have h := (HBd.out.ext hI).cell 1; exact h) (by have h := (HBd.out.ext hI).cell 2; exact h) (by have h := (HBd.out.ext hI).cell 3; exact h), by rw [hGs]; rfl⟩
        · refine Flow.step_val rfl fun a W hb hI hd => ?_
          have h0 : a.eval (.tmp 0) = .slice (some ⟨gm, 0, none⟩) N cap := hb.pre' 0 (by kernel_rfl)
          exact ⟨_, rfl, by rw [hGs]; exact h0⟩
        · refine Flow.step_val rfl fun a W hb hI hd => ?_
          have h4 : a.eval (.tmp 4) = .int .i64 (c : Int) := hb.pre' 4 (by kernel_rfl)
          exact ⟨_, rfl, by rw [hGs]; exact h4⟩
        · refine Flow.step_val rfl fun a W hb hI hd => ?_
          have h58 : a.eval (.tmp 58) = .slice (some ⟨gm, 0, none⟩) N cap := by have h := hd _ (Array.mem_of_getElem? (i := 0) rfl) rfl; rw [hGs] at h; exact h
          have h59 : a.eval (.tmp 59) = .int .i64 (c : Int) := by have h := hd _ (Array.mem_of_getElem? (i := 1) rfl) rfl; rw [hGs] at h; exact h
          exact ⟨_, run_index152 h58 h59 hlt, by rw [hGs]; rfl⟩
        · refine Flow.step_val rfl fun a W hb hI hd => ?_
          have h60 : a.eval (.tmp 60) = .pointer (some ⟨gm, c, none⟩) := by have h := hd _ (Array.mem_of_getElem? (i := 0) rfl) rfl; rw [hGs] at h; exact h
          exact ⟨_, run_load105 h60 (HC.out W hI), by rw [hGs]; rfl⟩
        · refine Flow.step_val rfl fun a W hb hI hd => ?_
          have h4 : a.eval (.tmp 4) = .int .i64 (c : Int) := hb.pre' 4 (by kernel_rfl)
          exact ⟨_, rfl, by rw [hGs]; exact h4⟩
        · refine Flow.step_val rfl fun a W hb hI hd => ?_
          have h61 : a.eval (.tmp 61) = .slice (some ⟨gc, 0, none⟩) M cc := by have h := hd _ (Array.mem_of_getElem? (i := 0) rfl) rfl; rw [hGs] at h; exact h
          have h62 : a.eval (.tmp 62) = .int .i64 (c : Int) := by have h := hd _ (Array.mem_of_getElem? (i := 1) rfl) rfl; rw [hGs] at h; exact h
          exact ⟨_, run_index105 h61 h62 hcM, by rw [hGs]; rfl⟩
        · refine Flow.step_val rfl fun a W hb hI hd => ?_
          have h63 : a.eval (.tmp 63) = .pointer (some ⟨gc, c * 4, none⟩) := by have h := hd _ (Array.mem_of_getElem? (i := 0) rfl) rfl; rw [hGs] at h; exact h
          exact ⟨_, run_cell4 h63 (HA.out W hI), by rw [hGs]; rfl⟩
        · refine Flow.step_call rfl fun a W hb hI hd => ?_
          have h57 : a.eval (.tmp 57) = .agg #[d0, d1, d2, d3] := by have h := hd _ (Array.mem_of_getElem? (i := 0) rfl) rfl; rw [hGs] at h; exact h
          have h64 : a.eval (.tmp 64) = R4.val rc := by have h := hd _ (Array.mem_of_getElem? (i := 1) rfl) rfl; rw [hGs] at h; exact h
          refine ⟨66, #[a.eval (.tmp 57), a.eval (.tmp 64)], Flow.run_enter (enters_of Tryz.func66 (by kernel_rfl) rfl) (by simp), ?_⟩
          rw [h57, h64]
          refine (mul_rat _ _ dt pv W (HD.out W hI) (HP.out W hI) HL1.out HL2.out).mono ?_
          rintro e w' ⟨v, rfl, hm, hE⟩
          exact ⟨v, rfl, by rw [hGs]; exact hm, hI.tr hE, hst.at hE⟩
      case flowend =>
        rw [hGs]
        refine fun W hI v0 h0 v1 h1 v2 h2 v3 h3 v4 h4 v5 h5 v6 h6 v7 h7 v8 h8 => ?_
        obtain rfl : .agg #[d0, d1, d2, d3] = v0 := Eq.symm h0; clear h0
        obtain rfl : .slice (some ⟨gm, 0, none⟩) N cap = v1 := Eq.symm h1; clear h1
        obtain rfl : .int .i64 (c : Int) = v2 := Eq.symm h2; clear h2
        obtain rfl : .pointer (some ⟨gm, c, none⟩) = v3 := Eq.symm h3; clear h3
        obtain rfl : .slice (some ⟨gc, 0, none⟩) M cc = v4 := Eq.symm h4; clear h4
        obtain rfl : .int .i64 (c : Int) = v5 := Eq.symm h5; clear h5
        obtain rfl : .pointer (some ⟨gc, c * 4, none⟩) = v6 := Eq.symm h6; clear h6
        obtain rfl : R4.val rc = v7 := Eq.symm h7; clear h7
        replace h8 : (fun v W => IsRat W v (dt * pv)) v8 W := h8
        clear hst hGs
        show wpList _ _ _ _ _ _
        simp only [List.drop_succ_cons, List.drop_zero, Act.put, List.setIfInBounds_toArray, List.set_cons_zero, List.set_cons_succ]
        obtain ⟨y0, y1, y2, y3, rfl, HY, p0, p1, p2, p3⟩ := h8.cells4
        clear h8
        replace p0 := st_any p0
        replace p1 := st_any p1
        replace p2 := st_any p2
        replace p3 := st_any p3
        have C := HBd.out.ext hI
        have e0 := C.cell 0
        have e1 := C.cell 1
        have e2 := C.cell 2
        have e3 := C.cell 3
        have f0 := C.frozen 0
        have f1 := C.frozen 1
        have f2 := C.frozen 2
        have f3 := C.frozen 3
        simp [r4cells] at e0 e1 e2 e3
        have HEW := hide (HEq.out.tr hI)
        have hSt := (HS.out.ext HEW.out).putDet hgdw HY.out
        have hMW := (HS.out.ext HEW.out).mat hgdw (HM.out.ext HEW.out) HDim.out.1 hgml HGs.out (y0, y1, y2, y3)
        have hw5 : ∃ w5, (((W.setCell ⟨gd, 0, none⟩ y0).setCell ⟨gd, 1, none⟩ y1).setCell ⟨gd, 2, none⟩ y2).setCell ⟨gd, 3, none⟩ y3 = w5 ∧ w5 = rput4 W gd 0 (y0, y1, y2, y3) := ⟨_, rfl, rfl⟩
        obtain ⟨w5, hw5, hw5'⟩ := hw5
        rw [← hw5'] at hSt hMW
        have HSt2 := hide hSt; have HM2 := hide hMW
        clear hSt hMW hw5' C HY
        go_wp2_with fail
        clear hw5 e0 e1 e2 e3 f0 f1 f2 f3 p0 p1 p2 p3 hI HEW HC HA HP HD HBd HEq
        go_loopw [6] (fun s wr => ∃ (i : Nat), c < i ∧ i ≤ N ∧ s = .int .i64 (i : Int) ∧ IsMat wr gm gs caps (elimPart A c i) ∧ TriSt w gs N gd (y0, y1, y2, y3) (dt * pv) wr) (fun s _ => N - (intOf s).toNat)
        case atStart => exact ⟨c + 1, by omega, by omega, by go_num, by rw [elimPart_start]; exact HM2.out, HSt2.out⟩
        case round =>
          obtain ⟨i, hci, hiN', rfl, hmt, hst⟩ := hrel
          have HM3 := hide hmt; have HS3 := hide hst
          clear hmt hst
          obtain ⟨w6, hw6⟩ : ∃ w0, w0 = wr := ⟨_, rfl⟩
          subst hw6
          by_cases hiN : i < N
          · obtain ⟨B, hB⟩ : ∃ B, elimPart A c i = B := ⟨_, rfl⟩
            have hiA : i < A.length := by rw [HDim.out.1]; exact hiN
            have HBi := hide (show B.getD i [] = A.getD i [] by rw [← hB, elimPart_row A c i i hiA, if_neg (by omega)])
            have HBc := hide (show B.getD c [] = A.getD c [] by rw [← hB, elimPart_row A c i c hcA, if_neg (by omega)])
            have HDB := hide (show Dim B N M by rw [← hB]; exact HDim.out.elim c i)
            have HB := hide hB
            rw [hB] at HM3
            clear hB
            obtain ⟨x, hx⟩ : ∃ x, mget A i c = x := ⟨_, rfl⟩
            have HX0 := hide hx
            have HLx := hide (show RatLen x 4398046511104 by rw [← hx, ← HAe.out]; exact HT.out.el c hlt i hiN c (by omega))
            have HLp := hide HL2.out
            clear hx
            have hiB : i < B.length := by rw [HDB.out.1]; exact hiN
            have hcB : c < B.length := by rw [HDB.out.1]; exact hlt
            obtain ⟨gi, hgi⟩ : ∃ g, gs i = g := ⟨_, rfl⟩
            obtain ⟨ci, hcci⟩ : ∃ g, caps i = g := ⟨_, rfl⟩
            obtain ⟨ri, hri1, hri2⟩ := (HM3.out.row hiB).at (j := c) (by rw [HDB.out.2 i hiN]; exact hcM)
            obtain ⟨rc, hrc1, hrc2⟩ := (HM3.out.row hcB).at (j := c) (by rw [HDB.out.2 c hlt]; exact hcM)
            rw [show (B.getD i []).getD c 0 = x by rw [HBi.out]; exact HX0.out] at hri2
            rw [show (B.getD c []).getD c 0 = pv by rw [HBc.out]; exact HPe.out] at hrc2
            have hcli := HM3.out.cell hiB
            have hclc := HM3.out.cell hcB
            have hli := (HM3.out.row hiB).ty.lt
            have hlc := (HM3.out.row hcB).ty.lt
            have hml := HM3.out.ty.lt
            rw [hgi, hcci, HDB.out.2 i hiN] at hcli
            rw [HGc.out, HCc0.out, HDB.out.2 c hlt] at hclc
            rw [hgi] at hri1 hli
            rw [HGc.out] at hrc1 hlc
            have HCi : Hid (∀ W, Ext w6 W → W.cell? ⟨gm, i, none⟩ = some (.slice (some ⟨gi, 0, none⟩) M ci)) := fun W E => (E.cell (p := ⟨gm, i, none⟩) hml).trans hcli
            have HCc : Hid (∀ W, Ext w6 W → W.cell? ⟨gm, c, none⟩ = some (.slice (some ⟨gc, 0, none⟩) M cc)) := fun W E => (E.cell (p := ⟨gm, c, none⟩) hml).trans hclc
            have HAi : Hid (∀ W, Ext w6 W → Cell4 W gi (c * 4) ri) := fun W E => hri1.ext hli E
            have HAc : Hid (∀ W, Ext w6 W → Cell4 W gc (c * 4) rc) := fun W E => hrc1.ext hlc E
            have HX : Hid (∀ W, Ext w6 W → IsRat W ri.val x) := fun W E => hri2.ext E
            have HPv : Hid (∀ W, Ext w6 W → IsRat W rc.val pv) := fun W E => hrc2.ext E
            have HGi := hide hgi; have HCi0 := hide hcci
            clear hgi hcci hri1 hri2 hrc1 hrc2 hcli hclc hli hlc hml
            have hci6 := HCi.out w6 (Ext.rfl' _)
            obtain ⟨a0, a1, a2, a3⟩ := HAi.out w6 (Ext.rfl' _)
            have HSg := hide (sign_rat _ x w6 (HX.out w6 (Ext.rfl' _)))
            obtain ⟨sg, hsg⟩ : ∃ s, x.num.sign = s := ⟨_, rfl⟩
            have hsz := rat_sign_zero x
            rw [hsg] at HSg hsz
            have HSz := hide hsz
            clear hsg hsz
            by_cases hx0 : x = 0
            · have t2 : (sg == 0) = true := by rw [HSz.out, decide_eq_true hx0]
              have HX00 := hide hx0
              clear hx0
              go_wp2_with fail
              refine HSg.out.mono ?_
              rintro e wy ⟨rfl, E4⟩
              go_wp2_with fail
              go_roundw
              case rel => exact ⟨i + 1, by omega, by omega, by go_num, by rw [elimPart_skip A c i hci hiA (by rw [HX0.out]; exact HX00.out), HB.out]; exact HM3.out.ext E4, HS3.out.ext E4⟩
              case measure => simp [intOf]; omega
            · have t2 : (sg == 0) = false := by rw [HSz.out, decide_eq_false hx0]
              clear hx0
              go_wp2_with fail
              refine HSg.out.mono ?_
              rintro e wy ⟨rfl, E4⟩
              replace HCi : Hid (∀ W, Ext wy W → W.cell? ⟨gm, i, none⟩ = some (.slice (some ⟨gi, 0, none⟩) M ci)) := fun W E => HCi.out W (E4.tr E)
              replace HCc : Hid (∀ W, Ext wy W → W.cell? ⟨gm, c, none⟩ = some (.slice (some ⟨gc, 0, none⟩) M cc)) := fun W E => HCc.out W (E4.tr E)
              replace HAi : Hid (∀ W, Ext wy W → Cell4 W gi (c * 4) ri) := fun W E => HAi.out W (E4.tr E)
              replace HAc : Hid (∀ W, Ext wy W → Cell4 W gc (c * 4) rc) := fun W E => HAc.out W (E4.tr E)
              replace HX : Hid (∀ W, Ext wy W → IsRat W ri.val x) := fun W E => HX.out W (E4.tr E)
              replace HPv : Hid (∀ W, Ext wy W → IsRat W rc.val pv) := fun W E => HPv.out W (E4.tr E)
              replace HM3 := hide (HM3.out.ext E4)
              replace HS3 := hide (HS3.out.ext E4)
              clear hci6 a0 a1 a2 a3 HSg HSz E4
              go_wp2_with fail
              obtain ⟨Gs, hGs⟩ : ∃ Gs : List (Value → World → Prop), Gs = [(fun v _ => v = .slice (some ⟨gm, 0, none⟩) N cap), (fun v _ => v = .int .i64 (i : Int)), (fun v _ => v = .pointer (some ⟨gm, i, none⟩)), (fun v _ => v = .slice (some ⟨gi, 0, none⟩) M ci), (fun v _ => v = .int .i64 (c : Int)), (fun v _ => v = .pointer (some ⟨gi, c * 4, none⟩)), (fun v _ => v = R4.val ri), (fun v _ => v = .slice (some ⟨gm, 0, none⟩) N cap), (fun v _ => v = .int .i64 (c : Int)), (fun v _ => v = .pointer (some ⟨gm, c, none⟩)), (fun v _ => v = .slice (some ⟨gc, 0, none⟩) M cc), (fun v _ => v = .int .i64 (c : Int)), (fun v _ => v = .pointer (some ⟨gc, c * 4, none⟩)), (fun v _ => v = R4.val rc), (fun v W => IsRat W v (x / pv)), (fun v W => ∃ g, v = .pointer (some ⟨g, 0, none⟩) ∧ wy.heap.size ≤ g ∧ Blk W g 113 (r4cells z4).toArray)] := ⟨_, rfl⟩
              have hst : Flow.Stay Ext Gs := by rw [hGs]; exact (Flow.Stay.cons (fun _ _ _ _ h => h) (Flow.Stay.cons (fun _ _ _ _ h => h) (Flow.Stay.cons (fun _ _ _ _ h => h) (Flow.Stay.cons (fun _ _ _ _ h => h) (Flow.Stay.cons (fun _ _ _ _ h => h) (Flow.Stay.cons (fun _ _ _ _ h => h) (Flow.Stay.cons (fun _ _ _ _ h => h) (Flow.Stay.cons (fun _ _ _ _ h => h) (Flow.Stay.cons (fun _ _ _ _ h => h) (Flow.Stay.cons (fun _ _ _ _ h => h) (Flow.Stay.cons (fun _ _ _ _ h => h) (Flow.Stay.cons (fun _ _ _ _ h => h) (Flow.Stay.cons (fun _ _ _ _ h => h) (Flow.Stay.cons (fun _ _ _ _ h => h) (Flow.Stay.cons (fun _ _ E _ h => IsRat.ext h E) (Flow.Stay.cons (fun _ _ E _ h => by obtain ⟨g, h1, h2, h3⟩ := h; exact ⟨g, h1, h2, h3.ext E⟩) Flow.Stay.nil))))))))))))))))
              refine Flow.wp_region_flow 16 (by kernel_rfl) (fun W => Ext wy W) Gs (by kernel_rfl) (Ext.rfl' wy).drew ?flowsteps ?flowend
              case flowsteps =>
                refine ⟨?_, ?_, ?_, ?_, ?_, ?_, ?_, ?_, ?_, ?_, ?_, ?_, ?_, ?_, ?_, ?_, trivial⟩
                · refine Flow.step_val rfl fun a W hb hI hd => ?_
                  have h0 : a.eval (.tmp 0) = .slice (some ⟨gm, 0, none⟩) N cap := hb.pre' 0 (by kernel_rfl)
                  exact ⟨_, rfl, by rw [hGs]; exact h0⟩
                · refine Flow.step_val rfl fun a W hb hI hd => ?_
                  have h6 : a.eval (.tmp 6) = .int .i64 (i : Int) := hb.pre' 6 (by kernel_rfl)
                  exact ⟨_, rfl, by rw [hGs]; exact h6⟩
                · refine Flow.step_val rfl fun a W hb hI hd => ?_
                  have h83 : a.eval (.tmp 83) = .slice (some ⟨gm, 0, none⟩) N cap := by have h := hd _ (Array.mem_of_getElem? (i := 0) rfl) rfl; rw [hGs] at h; exact h
                  have h84 : a.eval (.tmp 84) = .int .i64 (i : Int) := by have h := hd _ (Array.mem_of_getElem? (i := 1) rfl) rfl; rw [hGs] at h; exact h
                  exact ⟨_, run_index152 h83 h84 hiN, by rw [hGs]; rfl⟩
                · refine Flow.step_val rfl fun a W hb hI hd => ?_
                  have h85 : a.eval (.tmp 85) = .pointer (some ⟨gm, i, none⟩) := by have h := hd _ (Array.mem_of_getElem? (i := 0) rfl) rfl; rw [hGs] at h; exact h
                  exact ⟨_, run_load105 h85 (HCi.out W hI), by rw [hGs]; rfl⟩
                · refine Flow.step_val rfl fun a W hb hI hd => ?_
                  have h4 : a.eval (.tmp 4) = .int .i64 (c : Int) := hb.pre' 4 (by kernel_rfl)
                  exact ⟨_, rfl, by rw [hGs]; exact h4⟩
                · refine Flow.step_val rfl fun a W hb hI hd => ?_
                  have h86 : a.eval (.tmp 86) = .slice (some ⟨gi, 0, none⟩) M ci := by have h := hd _ (Array.mem_of_getElem? (i := 0) rfl) rfl; rw [hGs] at h; exact h
                  have h87 : a.eval (.tmp 87) = .int .i64 (c : Int) := by have h := hd _ (Array.mem_of_getElem? (i := 1) rfl) rfl; rw [hGs] at h; exact h
                  exact ⟨_, run_index105 h86 h87 hcM, by rw [hGs]; rfl⟩
                · refine Flow.step_val rfl fun a W hb hI hd => ?_
                  have h88 : a.eval (.tmp 88) = .pointer (some ⟨gi, c * 4, none⟩) := by have h := hd _ (Array.mem_of_getElem? (i := 0) rfl) rfl; rw [hGs] at h; exact h
                  exact ⟨_, run_cell4 h88 (HAi.out W hI), by rw [hGs]; rfl⟩
                · refine Flow.step_val rfl fun a W hb hI hd => ?_
                  have h0 : a.eval (.tmp 0) = .slice (some ⟨gm, 0, none⟩) N cap := hb.pre' 0 (by kernel_rfl)
                  exact ⟨_, rfl, by rw [hGs]; exact h0⟩
                · refine Flow.step_val rfl fun a W hb hI hd => ?_
                  have h4 : a.eval (.tmp 4) = .int .i64 (c : Int) := hb.pre' 4 (by kernel_rfl)
                  exact ⟨_, rfl, by rw [hGs]; exact h4⟩
                · refine Flow.step_val rfl fun a W hb hI hd => ?_
                  have h90 : a.eval (.tmp 90) = .slice (some ⟨gm, 0, none⟩) N cap := by have h := hd _ (Array.mem_of_getElem? (i := 0) rfl) rfl; rw [hGs] at h; exact h
                  have h91 : a.eval (.tmp 91) = .int .i64 (c : Int) := by have h := hd _ (Array.mem_of_getElem? (i := 1) rfl) rfl; rw [hGs] at h; exact h
                  exact ⟨_, run_index152 h90 h91 hlt, by rw [hGs]; rfl⟩
                · refine Flow.step_val rfl fun a W hb hI hd => ?_
                  have h92 : a.eval (.tmp 92) = .pointer (some ⟨gm, c, none⟩) := by have h := hd _ (Array.mem_of_getElem? (i := 0) rfl) rfl; rw [hGs] at h; exact h
                  exact ⟨_, run_load105 h92 (HCc.out W hI), by rw [hGs]; rfl⟩
                · refine Flow.step_val rfl fun a W hb hI hd => ?_
                  have h4 : a.eval (.tmp 4) = .int .i64 (c : Int) := hb.pre' 4 (by kernel_rfl)
                  exact ⟨_, rfl, by rw [hGs]; exact h4⟩
                · refine Flow.step_val rfl fun a W hb hI hd => ?_
                  have h93 : a.eval (.tmp 93) = .slice (some ⟨gc, 0, none⟩) M cc := by have h := hd _ (Array.mem_of_getElem? (i := 0) rfl) rfl; rw [hGs] at h; exact h
                  have h94 : a.eval (.tmp 94) = .int .i64 (c : Int) := by have h := hd _ (Array.mem_of_getElem? (i := 1) rfl) rfl; rw [hGs] at h; exact h
                  exact ⟨_, run_index105 h93 h94 hcM, by rw [hGs]; rfl⟩
                · refine Flow.step_val rfl fun a W hb hI hd => ?_
                  have h95 : a.eval (.tmp 95) = .pointer (some ⟨gc, c * 4, none⟩) := by have h := hd _ (Array.mem_of_getElem? (i := 0) rfl) rfl; rw [hGs] at h; exact h
                  exact ⟨_, run_cell4 h95 (HAc.out W hI), by rw [hGs]; rfl⟩
                · refine Flow.step_call rfl fun a W hb hI hd => ?_
                  have h89 : a.eval (.tmp 89) = R4.val ri := by have h := hd _ (Array.mem_of_getElem? (i := 0) rfl) rfl; rw [hGs] at h; exact h
                  have h96 : a.eval (.tmp 96) = R4.val rc := by have h := hd _ (Array.mem_of_getElem? (i := 1) rfl) rfl; rw [hGs] at h; exact h
                  refine ⟨69, #[a.eval (.tmp 89), a.eval (.tmp 96)], Flow.run_enter (enters_of Tryz.func69 (by kernel_rfl) rfl) (by simp), ?_⟩
                  rw [h89, h96]
                  refine (div_rat _ _ x pv W (HX.out W hI) (HPv.out W hI) HPne.out HLx.out HLp.out).mono ?_
                  rintro e w' ⟨v, rfl, hm, hE⟩
                  exact ⟨v, rfl, by rw [hGs]; exact hm, hI.tr hE, hst.at hE⟩
                · refine Flow.step_to rfl fun a W hb hI hd => ?_
                  exact ⟨_, _, .inl run_alloc113, by rw [hGs]; exact ⟨W.heap.size, rfl, hI.size, Blk.new _ _ _⟩, hI.tr ((Below.refl _ _).alloc (Nat.le_refl _) _), hst.at ((Below.refl _ _).alloc (Nat.le_refl _) _)⟩
              case flowend =>
                rw [hGs]
                refine fun W hI v0 h0 v1 h1 v2 h2 v3 h3 v4 h4 v5 h5 v6 h6 v7 h7 v8 h8 v9 h9 v10 h10 v11 h11 v12 h12 v13 h13 v14 h14 v15 h15 => ?_
                obtain rfl : .slice (some ⟨gm, 0, none⟩) N cap = v0 := Eq.symm h0; clear h0
                obtain rfl : .int .i64 (i : Int) = v1 := Eq.symm h1; clear h1
                obtain rfl : .pointer (some ⟨gm, i, none⟩) = v2 := Eq.symm h2; clear h2
                obtain rfl : .slice (some ⟨gi, 0, none⟩) M ci = v3 := Eq.symm h3; clear h3
                obtain rfl : .int .i64 (c : Int) = v4 := Eq.symm h4; clear h4
                obtain rfl : .pointer (some ⟨gi, c * 4, none⟩) = v5 := Eq.symm h5; clear h5
                obtain rfl : R4.val ri = v6 := Eq.symm h6; clear h6
                obtain rfl : .slice (some ⟨gm, 0, none⟩) N cap = v7 := Eq.symm h7; clear h7
                obtain rfl : .int .i64 (c : Int) = v8 := Eq.symm h8; clear h8
                obtain rfl : .pointer (some ⟨gm, c, none⟩) = v9 := Eq.symm h9; clear h9
                obtain rfl : .slice (some ⟨gc, 0, none⟩) M cc = v10 := Eq.symm h10; clear h10
                obtain rfl : .int .i64 (c : Int) = v11 := Eq.symm h11; clear h11
                obtain rfl : .pointer (some ⟨gc, c * 4, none⟩) = v12 := Eq.symm h12; clear h12
                obtain rfl : R4.val rc = v13 := Eq.symm h13; clear h13
                replace h14 : (fun v W => IsRat W v (x / pv)) v14 W := h14
                replace h15 : (fun v W => ∃ g, v = .pointer (some ⟨g, 0, none⟩) ∧ wy.heap.size ≤ g ∧ Blk W g 113 (r4cells z4).toArray) v15 W := h15
                clear hst hGs
                show wpList _ _ _ _ _ _
                simp only [List.drop_succ_cons, List.drop_zero, Act.put, List.setIfInBounds_toArray, List.set_cons_zero, List.set_cons_succ]
                obtain ⟨q0, q1, q2, q3, rfl, HQ0, p0, p1, p2, p3⟩ := h14.cells4
                clear h14
                replace p0 := st_any p0
                replace p1 := st_any p1
                replace p2 := st_any p2
                replace p3 := st_any p3
                obtain ⟨gq, rfl, hgq, hBq⟩ := h15
                have E6 : Ext wy (rput4 W gq 0 (q0, q1, q2, q3)) := hI.rput4 hgq 0 _
                have hBq2 := hBq.rputAll (q0, q1, q2, q3)
                have hQ2 := HQ0.out.rput4 hBq.ty 0 (q0, q1, q2, q3)
                have e0 := hBq.cell 0
                have e1 := hBq.cell 1
                have e2 := hBq.cell 2
                have e3 := hBq.cell 3
                have f0 := hBq.frozen 0
                have f1 := hBq.frozen 1
                have f2 := hBq.frozen 2
                have f3 := hBq.frozen 3
                simp [r4cells] at e0 e1 e2 e3
                have hgqw : w.heap.size ≤ gq := Nat.le_trans (Nat.le_of_lt hgdw) (Nat.le_trans (Nat.le_of_lt HS3.out.1.lt) hgq)
                have hgqd : gq ≠ gd := fun e => by have := HS3.out.1.lt; omega
                have hw7 : ∃ w7, (((W.setCell ⟨gq, 0, none⟩ q0).setCell ⟨gq, 1, none⟩ q1).setCell ⟨gq, 2, none⟩ q2).setCell ⟨gq, 3, none⟩ q3 = w7 ∧ w7 = rput4 W gq 0 (q0, q1, q2, q3) := ⟨_, rfl, rfl⟩
                obtain ⟨w7, hw7, hw7'⟩ := hw7
                rw [← hw7'] at E6 hBq2 hQ2
                have HM4 := hide (HM3.out.ext E6)
                have HS4 := hide (HS3.out.ext E6)
                have HBq := hide hBq2
                have HQ := hide hQ2
                clear hw7' hBq hBq2 hQ2 E6 HQ0 HCi HCc HAi HAc HX HPv HM3 HS3 hgq
                go_wp2_with fail
                clear hw7 e0 e1 e2 e3 f0 f1 f2 f3 p0 p1 p2 p3 hI
                obtain ⟨q, hq⟩ : ∃ q, x / pv = q := ⟨_, rfl⟩
                rw [hq] at HQ
                have HQe := hide (show pivq A c i = q by rw [← hq, pivq, HX0.out, HPe.out])
                have HLq := hide (show RatLen q 4398046511104 by rw [← HQe.out, ← HAe.out]; exact HT.out.quot c hlt i hci hiN)
                clear hq
                go_loopw [8] (fun s wr => ∃ (j : Nat), c ≤ j ∧ j ≤ M ∧ s = .int .i64 (j : Int) ∧ IsMat wr gm gs caps (subPart B c i j q) ∧ Blk wr gq 113 (r4cells (q0, q1, q2, q3)).toArray ∧ IsRat wr (R4.val (q0, q1, q2, q3)) q ∧ TriSt w gs N gd (y0, y1, y2, y3) (dt * pv) wr) (fun s _ => M - (intOf s).toNat)
                case atStart => exact ⟨c, Nat.le_refl _, by omega, rfl, by rw [subPart_start B c i q hiB]; exact HM4.out, HBq.out, HQ.out, HS4.out⟩
                case round =>
                  obtain ⟨j, hcj, hjM', rfl, hmt, hbq, hqr, hst⟩ := hrel
                  have HM5 := hide hmt; have HB5 := hide hbq; have HQ5 := hide hqr; have HS5 := hide hst
                  clear hmt hbq hqr hst
                  obtain ⟨wz, hwz⟩ : ∃ w0, w0 = wr := ⟨_, rfl⟩
                  subst hwz
                  have HDC := hide (subPart_dim HDB.out c i j q)
                  obtain ⟨C, hC⟩ : ∃ C, subPart B c i j q = C := ⟨_, rfl⟩
                  rw [hC] at HM5 HDC
                  have hiC : i < C.length := by rw [HDC.out.1]; exact hiN
                  have hcC : c < C.length := by rw [HDC.out.1]; exact hlt
                  have hcli := HM5.out.cell hiC
                  rw [HGi.out, HCi0.out, HDC.out.2 i hiN] at hcli
                  by_cases hjM : j < M
                  · have e1 : mget C i j = mget A i j := by rw [← hC, subPart_get B c i j q hiB (by rw [HDB.out.2 i hiN]; exact hjM), mget, HBi.out]; rfl
                    have e2 : mget C c j = mget A c j := by rw [← hC, mget, subPart_row B c i j c q (by omega), HBc.out]; rfl
                    obtain ⟨x, hx⟩ : ∃ x, mget A i j = x := ⟨_, rfl⟩
                    obtain ⟨y, hy⟩ : ∃ y, mget A c j = y := ⟨_, rfl⟩
                    have HLx := hide (show RatLen x 4398046511104 by rw [← hx, ← HAe.out]; exact HT.out.el c hlt i hiN j hjM)
                    have HLy := hide (show RatLen y 4398046511104 by rw [← hy, ← HAe.out]; exact HT.out.el c hlt c hlt j hjM)
                    have HLqy := hide (show RatLen (q * y) 4398046511104 by rw [← hy, ← HQe.out, ← HAe.out]; exact HT.out.prod c hlt i hci hiN j hcj hjM)
                    obtain ⟨rij, hri1, hri2⟩ := (HM5.out.row hiC).at (j := j) (by rw [HDC.out.2 i hiN]; exact hjM)
                    obtain ⟨rcj, hrc1, hrc2⟩ := (HM5.out.row hcC).at (j := j) (by rw [HDC.out.2 c hlt]; exact hjM)
                    rw [show (C.getD i []).getD j 0 = x from e1.trans hx] at hri2
                    rw [show (C.getD c []).getD j 0 = y from e2.trans hy] at hrc2
                    have hclc := HM5.out.cell hcC
                    have hli := (HM5.out.row hiC).ty.lt
                    have hlc := (HM5.out.row hcC).ty.lt
                    have hml := HM5.out.ty.lt
                    rw [HGc.out, HCc0.out, HDC.out.2 c hlt] at hclc
                    rw [HGi.out] at hri1 hli
                    rw [HGc.out] at hrc1 hlc
                    have HCi : Hid (∀ W, Ext wz W → W.cell? ⟨gm, i, none⟩ = some (.slice (some ⟨gi, 0, none⟩) M ci)) := fun W E => (E.cell (p := ⟨gm, i, none⟩) hml).trans hcli
                    have HCc : Hid (∀ W, Ext wz W → W.cell? ⟨gm, c, none⟩ = some (.slice (some ⟨gc, 0, none⟩) M cc)) := fun W E => (E.cell (p := ⟨gm, c, none⟩) hml).trans hclc
                    have HAi : Hid (∀ W, Ext wz W → Cell4 W gi (j * 4) rij) := fun W E => hri1.ext hli E
                    have HAc : Hid (∀ W, Ext wz W → Cell4 W gc (j * 4) rcj) := fun W E => hrc1.ext hlc E
                    have HX : Hid (∀ W, Ext wz W → IsRat W rij.val x) := fun W E => hri2.ext E
                    have HY : Hid (∀ W, Ext wz W → IsRat W rcj.val y) := fun W E => hrc2.ext E
                    replace HQ : Hid (∀ W, Ext wz W → IsRat W (.agg #[q0, q1, q2, q3]) q) := fun W E => HQ5.out.ext E
                    replace HBq := HB5
                    have HE1' := hide e1; have HE2' := hide e2; have HX1 := hide hx; have HY1 := hide hy; have HCe := hide hC
                    have hci0 := hcli
                    clear e1 e2 hx hy hC hri1 hri2 hrc1 hrc2 hclc hli hlc hml hcli
                    go_wp2_with fail
                    clear hci0
                    obtain ⟨Gs, hGs⟩ : ∃ Gs : List (Value → World → Prop), Gs = [(fun v _ => v = .slice (some ⟨gm, 0, none⟩) N cap), (fun v _ => v = .int .i64 (i : Int)), (fun v _ => v = .pointer (some ⟨gm, i, none⟩)), (fun v _ => v = .slice (some ⟨gi, 0, none⟩) M ci), (fun v _ => v = .int .i64 (j : Int)), (fun v _ => v = .slice (some ⟨gm, 0, none⟩) N cap), (fun v _ => v = .int .i64 (i : Int)), (fun v _ => v = .pointer (some ⟨gm, i, none⟩)), (fun v _ => v = .slice (some ⟨gi, 0, none⟩) M ci), (fun v _ => v = .int .i64 (j : Int)), (fun v _ => v = .pointer (some ⟨gi, j * 4, none⟩)), (fun v _ => v = R4.val rij), (fun v _ => v = .agg #[q0, q1, q2, q3]), (fun v _ => v = .slice (some ⟨gm, 0, none⟩) N cap), (fun v _ => v = .int .i64 (c : Int)), (fun v _ => v = .pointer (some ⟨gm, c, none⟩)), (fun v _ => v = .slice (some ⟨gc, 0, none⟩) M cc), (fun v _ => v = .int .i64 (j : Int)), (fun v _ => v = .pointer (some ⟨gc, j * 4, none⟩)), (fun v _ => v = R4.val rcj), (fun v W => IsRat W v (q * y)), (fun v W => IsRat W v (x - q * y)), (fun v _ => v = .pointer (some ⟨gi, j * 4, none⟩))] := ⟨_, rfl⟩
                    have hst : Flow.Stay Ext Gs := by rw [hGs]; exact (Flow.Stay.cons (fun _ _ _ _ h => h) (Flow.Stay.cons (fun _ _ _ _ h => h) (Flow.Stay.cons (fun _ _ _ _ h => h) (Flow.Stay.cons (fun _ _ _ _ h => h) (Flow.Stay.cons (fun _ _ _ _ h => h) (Flow.Stay.cons (fun _ _ _ _ h => h) (Flow.Stay.cons (fun _ _ _ _ h => h) (Flow.Stay.cons (fun _ _ _ _ h => h) (Flow.Stay.cons (fun _ _ _ _ h => h) (Flow.Stay.cons (fun _ _ _ _ h => h) (Flow.Stay.cons (fun _ _ _ _ h => h) (Flow.Stay.cons (fun _ _ _ _ h => h) (Flow.Stay.cons (fun _ _ _ _ h => h) (Flow.Stay.cons (fun _ _ _ _ h => h) (Flow.Stay.cons (fun _ _ _ _ h => h) (Flow.Stay.cons (fun _ _ _ _ h => h) (Flow.Stay.cons (fun _ _ _ _ h => h) (Flow.Stay.cons (fun _ _ _ _ h => h) (Flow.Stay.cons (fun _ _ _ _ h => h) (Flow.Stay.cons (fun _ _ _ _ h => h) (Flow.Stay.cons (fun _ _ E _ h => IsRat.ext h E) (Flow.Stay.cons (fun _ _ E _ h => IsRat.ext h E) (Flow.Stay.cons (fun _ _ _ _ h => h) Flow.Stay.nil)))))))))))))))))))))))
                    refine Flow.wp_region_flow 23 (by kernel_rfl) (fun W => Ext wz W) Gs (by kernel_rfl) (Ext.rfl' wz).drew ?flowsteps ?flowend
                    case flowsteps =>
                      refine ⟨?_, ?_, ?_, ?_, ?_, ?_, ?_, ?_, ?_, ?_, ?_, ?_, ?_, ?_, ?_, ?_, ?_, ?_, ?_, ?_, ?_, ?_, ?_, trivial⟩
                      · refine Flow.step_val rfl fun a W hb hI hd => ?_
                        have h0 : a.eval (.tmp 0) = .slice (some ⟨gm, 0, none⟩) N cap := hb.pre' 0 (by kernel_rfl)
                        exact ⟨_, rfl, by rw [hGs]; exact h0⟩
                      · refine Flow.step_val rfl fun a W hb hI hd => ?_
                        have h6 : a.eval (.tmp 6) = .int .i64 (i : Int) := hb.pre' 6 (by kernel_rfl)
                        exact ⟨_, rfl, by rw [hGs]; exact h6⟩
                      · refine Flow.step_val rfl fun a W hb hI hd => ?_
                        have h108 : a.eval (.tmp 108) = .slice (some ⟨gm, 0, none⟩) N cap := by have h := hd _ (Array.mem_of_getElem? (i := 0) rfl) rfl; rw [hGs] at h; exact h
                        have h109 : a.eval (.tmp 109) = .int .i64 (i : Int) := by have h := hd _ (Array.mem_of_getElem? (i := 1) rfl) rfl; rw [hGs] at h; exact h
                        exact ⟨_, run_index152 h108 h109 hiN, by rw [hGs]; rfl⟩
                      · refine Flow.step_val rfl fun a W hb hI hd => ?_
                        have h110 : a.eval (.tmp 110) = .pointer (some ⟨gm, i, none⟩) := by have h := hd _ (Array.mem_of_getElem? (i := 0) rfl) rfl; rw [hGs] at h; exact h
                        exact ⟨_, run_load105 h110 (HCi.out W hI), by rw [hGs]; rfl⟩
                      · refine Flow.step_val rfl fun a W hb hI hd => ?_
                        have h8 : a.eval (.tmp 8) = .int .i64 (j : Int) := hb.pre' 8 (by kernel_rfl)
                        exact ⟨_, rfl, by rw [hGs]; exact h8⟩
                      · refine Flow.step_val rfl fun a W hb hI hd => ?_
                        have h0 : a.eval (.tmp 0) = .slice (some ⟨gm, 0, none⟩) N cap := hb.pre' 0 (by kernel_rfl)
                        exact ⟨_, rfl, by rw [hGs]; exact h0⟩
                      · refine Flow.step_val rfl fun a W hb hI hd => ?_
                        have h6 : a.eval (.tmp 6) = .int .i64 (i : Int) := hb.pre' 6 (by kernel_rfl)
                        exact ⟨_, rfl, by rw [hGs]; exact h6⟩
                      · refine Flow.step_val rfl fun a W hb hI hd => ?_
                        have h113 : a.eval (.tmp 113) = .slice (some ⟨gm, 0, none⟩) N cap := by have h := hd _ (Array.mem_of_getElem? (i := 0) rfl) rfl; rw [hGs] at h; exact h
                        have h114 : a.eval (.tmp 114) = .int .i64 (i : Int) := by have h := hd _ (Array.mem_of_getElem? (i := 1) rfl) rfl; rw [hGs] at h; exact h
                        exact ⟨_, run_index152 h113 h114 hiN, by rw [hGs]; rfl⟩
                      · refine Flow.step_val rfl fun a W hb hI hd => ?_
                        have h115 : a.eval (.tmp 115) = .pointer (some ⟨gm, i, none⟩) := by have h := hd _ (Array.mem_of_getElem? (i := 0) rfl) rfl; rw [hGs] at h; exact h
                        exact ⟨_, run_load105 h115 (HCi.out W hI), by rw [hGs]; rfl⟩
                      · refine Flow.step_val rfl fun a W hb hI hd => ?_
                        have h8 : a.eval (.tmp 8) = .int .i64 (j : Int) := hb.pre' 8 (by kernel_rfl)
                        exact ⟨_, rfl, by rw [hGs]; exact h8⟩
                      · refine Flow.step_val rfl fun a W hb hI hd => ?_
                        have h116 : a.eval (.tmp 116) = .slice (some ⟨gi, 0, none⟩) M ci := by have h := hd _ (Array.mem_of_getElem? (i := 0) rfl) rfl; rw [hGs] at h; exact h
                        have h117 : a.eval (.tmp 117) = .int .i64 (j : Int) := by have h := hd _ (Array.mem_of_getElem? (i := 1) rfl) rfl; rw [hGs] at h; exact h
                        exact ⟨_, run_index105 h116 h117 hjM, by rw [hGs]; rfl⟩
                      · refine Flow.step_val rfl fun a W hb hI hd => ?_
                        have h118 : a.eval (.tmp 118) = .pointer (some ⟨gi, j * 4, none⟩) := by have h := hd _ (Array.mem_of_getElem? (i := 0) rfl) rfl; rw [hGs] at h; exact h
                        exact ⟨_, run_cell4 h118 (HAi.out W hI), by rw [hGs]; rfl⟩
                      · refine Flow.step_val rfl fun a W hb hI hd => ?_
                        have h7 : a.eval (.tmp 7) = .pointer (some ⟨gq, 0, none⟩) := hb.pre' 7 (by kernel_rfl)
                        exact ⟨_, run_load4 h7 (by have h := (HBq.out.ext hI).cell 0; exact h) (by have h := (HBq.out.ext hI).cell 1; exact h) (by have h := (HBq.out.ext hI).cell 2; exact h) (by have h := (HBq.out.ext hI).cell 3; exact h), by rw [hGs]; rfl⟩
                      · refine Flow.step_val rfl fun a W hb hI hd => ?_
                        have h0 : a.eval (.tmp 0) = .slice (some ⟨gm, 0, none⟩) N cap := hb.pre' 0 (by kernel_rfl)
                        exact ⟨_, rfl, by rw [hGs]; exact h0⟩
                      · refine Flow.step_val rfl fun a W hb hI hd => ?_
                        have h4 : a.eval (.tmp 4) = .int .i64 (c : Int) := hb.pre' 4 (by kernel_rfl)
                        exact ⟨_, rfl, by rw [hGs]; exact h4⟩
                      · refine Flow.step_val rfl fun a W hb hI hd => ?_
                        have h121 : a.eval (.tmp 121) = .slice (some ⟨gm, 0, none⟩) N cap := by have h := hd _ (Array.mem_of_getElem? (i := 0) rfl) rfl; rw [hGs] at h; exact h
                        have h122 : a.eval (.tmp 122) = .int .i64 (c : Int) := by have h := hd _ (Array.mem_of_getElem? (i := 1) rfl) rfl; rw [hGs] at h; exact h
                        exact ⟨_, run_index152 h121 h122 hlt, by rw [hGs]; rfl⟩
                      · refine Flow.step_val rfl fun a W hb hI hd => ?_
                        have h123 : a.eval (.tmp 123) = .pointer (some ⟨gm, c, none⟩) := by have h := hd _ (Array.mem_of_getElem? (i := 0) rfl) rfl; rw [hGs] at h; exact h
                        exact ⟨_, run_load105 h123 (HCc.out W hI), by rw [hGs]; rfl⟩
                      · refine Flow.step_val rfl fun a W hb hI hd => ?_
                        have h8 : a.eval (.tmp 8) = .int .i64 (j : Int) := hb.pre' 8 (by kernel_rfl)
                        exact ⟨_, rfl, by rw [hGs]; exact h8⟩
                      · refine Flow.step_val rfl fun a W hb hI hd => ?_
                        have h124 : a.eval (.tmp 124) = .slice (some ⟨gc, 0, none⟩) M cc := by have h := hd _ (Array.mem_of_getElem? (i := 0) rfl) rfl; rw [hGs] at h; exact h
                        have h125 : a.eval (.tmp 125) = .int .i64 (j : Int) := by have h := hd _ (Array.mem_of_getElem? (i := 1) rfl) rfl; rw [hGs] at h; exact h
                        exact ⟨_, run_index105 h124 h125 hjM, by rw [hGs]; rfl⟩
                      · refine Flow.step_val rfl fun a W hb hI hd => ?_
                        have h126 : a.eval (.tmp 126) = .pointer (some ⟨gc, j * 4, none⟩) := by have h := hd _ (Array.mem_of_getElem? (i := 0) rfl) rfl; rw [hGs] at h; exact h
                        exact ⟨_, run_cell4 h126 (HAc.out W hI), by rw [hGs]; rfl⟩
                      · refine Flow.step_call rfl fun a W hb hI hd => ?_
                        have h120 : a.eval (.tmp 120) = .agg #[q0, q1, q2, q3] := by have h := hd _ (Array.mem_of_getElem? (i := 0) rfl) rfl; rw [hGs] at h; exact h
                        have h127 : a.eval (.tmp 127) = R4.val rcj := by have h := hd _ (Array.mem_of_getElem? (i := 1) rfl) rfl; rw [hGs] at h; exact h
                        refine ⟨66, #[a.eval (.tmp 120), a.eval (.tmp 127)], Flow.run_enter (enters_of Tryz.func66 (by kernel_rfl) rfl) (by simp), ?_⟩
                        rw [h120, h127]
                        refine (mul_rat _ _ q y W (HQ.out W hI) (HY.out W hI) HLq.out HLy.out).mono ?_
                        rintro e w' ⟨v, rfl, hm, hE⟩
                        exact ⟨v, rfl, by rw [hGs]; exact hm, hI.tr hE, hst.at hE⟩
                      · refine Flow.step_call rfl fun a W hb hI hd => ?_
                        have h119 : a.eval (.tmp 119) = R4.val rij := by have h := hd _ (Array.mem_of_getElem? (i := 0) rfl) rfl; rw [hGs] at h; exact h
                        have h128 : (fun v W => IsRat W v (q * y)) (a.eval (.tmp 128)) W := by have h := hd _ (Array.mem_of_getElem? (i := 1) rfl) rfl; rw [hGs] at h; exact h
                        refine ⟨61, #[a.eval (.tmp 119), a.eval (.tmp 128)], Flow.run_enter (enters_of Tryz.func61 (by kernel_rfl) rfl) (by simp), ?_⟩
                        rw [h119]
                        refine (sub_rat _ _ x (q * y) W (HX.out W hI) h128 HLx.out HLqy.out).mono ?_
                        rintro e w' ⟨v, rfl, hm, hE⟩
                        exact ⟨v, rfl, by rw [hGs]; exact hm, hI.tr hE, hst.at hE⟩
                      · refine Flow.step_val rfl fun a W hb hI hd => ?_
                        have h111 : a.eval (.tmp 111) = .slice (some ⟨gi, 0, none⟩) M ci := by have h := hd _ (Array.mem_of_getElem? (i := 0) rfl) rfl; rw [hGs] at h; exact h
                        have h112 : a.eval (.tmp 112) = .int .i64 (j : Int) := by have h := hd _ (Array.mem_of_getElem? (i := 1) rfl) rfl; rw [hGs] at h; exact h
                        exact ⟨_, run_index105 h111 h112 hjM, by rw [hGs]; rfl⟩
                    case flowend =>
                      rw [hGs]
                      refine fun W hI v0 h0 v1 h1 v2 h2 v3 h3 v4 h4 v5 h5 v6 h6 v7 h7 v8 h8 v9 h9 v10 h10 v11 h11 v12 h12 v13 h13 v14 h14 v15 h15 v16 h16 v17 h17 v18 h18 v19 h19 v20 h20 v21 h21 v22 h22 => ?_
                      obtain rfl : .slice (some ⟨gm, 0, none⟩) N cap = v0 := Eq.symm h0; clear h0
                      obtain rfl : .int .i64 (i : Int) = v1 := Eq.symm h1; clear h1
                      obtain rfl : .pointer (some ⟨gm, i, none⟩) = v2 := Eq.symm h2; clear h2
                      obtain rfl : .slice (some ⟨gi, 0, none⟩) M ci = v3 := Eq.symm h3; clear h3
                      obtain rfl : .int .i64 (j : Int) = v4 := Eq.symm h4; clear h4
                      obtain rfl : .slice (some ⟨gm, 0, none⟩) N cap = v5 := Eq.symm h5; clear h5
                      obtain rfl : .int .i64 (i : Int) = v6 := Eq.symm h6; clear h6
                      obtain rfl : .pointer (some ⟨gm, i, none⟩) = v7 := Eq.symm h7; clear h7
                      obtain rfl : .slice (some ⟨gi, 0, none⟩) M ci = v8 := Eq.symm h8; clear h8
                      obtain rfl : .int .i64 (j : Int) = v9 := Eq.symm h9; clear h9
                      obtain rfl : .pointer (some ⟨gi, j * 4, none⟩) = v10 := Eq.symm h10; clear h10
                      obtain rfl : R4.val rij = v11 := Eq.symm h11; clear h11
                      obtain rfl : .agg #[q0, q1, q2, q3] = v12 := Eq.symm h12; clear h12
                      obtain rfl : .slice (some ⟨gm, 0, none⟩) N cap = v13 := Eq.symm h13; clear h13
                      obtain rfl : .int .i64 (c : Int) = v14 := Eq.symm h14; clear h14
                      obtain rfl : .pointer (some ⟨gm, c, none⟩) = v15 := Eq.symm h15; clear h15
                      obtain rfl : .slice (some ⟨gc, 0, none⟩) M cc = v16 := Eq.symm h16; clear h16
                      obtain rfl : .int .i64 (j : Int) = v17 := Eq.symm h17; clear h17
                      obtain rfl : .pointer (some ⟨gc, j * 4, none⟩) = v18 := Eq.symm h18; clear h18
                      obtain rfl : R4.val rcj = v19 := Eq.symm h19; clear h19
                      replace h20 : (fun v W => IsRat W v (q * y)) v20 W := h20
                      replace h21 : (fun v W => IsRat W v (x - q * y)) v21 W := h21
                      obtain rfl : .pointer (some ⟨gi, j * 4, none⟩) = v22 := Eq.symm h22; clear h22
                      clear hst hGs
                      show wpList _ _ _ _ _ _
                      simp only [List.drop_succ_cons, List.drop_zero, Act.put, List.setIfInBounds_toArray, List.set_cons_zero, List.set_cons_succ]
                      obtain ⟨z0, z1, z2, z3, rfl, HZ, p0, p1, p2, p3⟩ := h21.cells4
                      clear h21 h20
                      replace p0 := st_any p0
                      replace p1 := st_any p1
                      replace p2 := st_any p2
                      replace p3 := st_any p3
                      obtain ⟨a0, a1, a2, a3⟩ := HAi.out W hI
                      have hfr := ((HM5.out.ext hI).row hiC).frozen
                      have hty := ((HM5.out.ext hI).row hiC).ty
                      rw [HGi.out] at hfr hty
                      have f0 := hfr (j * 4)
                      have f1 := hfr (j * 4 + 1)
                      have f2 := hfr (j * 4 + 2)
                      have f3 := hfr (j * 4 + 3)
                      have hput := (HM5.out.ext hI).put hiC (by rw [HDC.out.2 i hiN]; exact hjM) HZ.out
                      have hS6 := (HS5.out.ext hI).row (Nat.le_of_lt hgdw) hiN (HGs.out i hiN) (by rw [HGi.out]; exact hty) (j * 4) (z0, z1, z2, z3)
                      have hgiw := HGs.out i hiN
                      rw [HGi.out] at hput hS6 hgiw
                      have hB6 := (HB5.out.ext hI).keep (Keep.rput4 (S := fun b => b = gi) (o := j * 4) (Keep.refl _ W) (.inl rfl) (z0, z1, z2, z3)) (fun e => by omega)
                      have hQ6 := (HQ5.out.ext hI).rput4 hty (j * 4) (z0, z1, z2, z3)
                      have hw8 : ∃ w8, (((W.setCell ⟨gi, j * 4, none⟩ z0).setCell ⟨gi, j * 4 + 1, none⟩ z1).setCell ⟨gi, j * 4 + 2, none⟩ z2).setCell ⟨gi, j * 4 + 3, none⟩ z3 = w8 ∧ w8 = rput4 W gi (j * 4) (z0, z1, z2, z3) := ⟨_, rfl, rfl⟩
                      obtain ⟨w8, hw8, hw8'⟩ := hw8
                      rw [← hw8'] at hput hS6 hB6 hQ6
                      have HP6 := hide hput; have HS6 := hide hS6; have HB6 := hide hB6; have HQ6 := hide hQ6
                      clear hput hS6 hB6 hQ6 hw8' hfr hgiw
                      go_wp2_with fail
                      go_roundw
                      case rel =>
                        refine ⟨j + 1, by omega, by omega, by go_num, ?_, HB6.out, HQ6.out, HS6.out⟩
                        have h := HP6.out
                        rw [← HX1.out, ← HY1.out, ← HE1'.out, ← HE2'.out, ← HCe.out] at h
                        rw [show mget (subPart B c i j q) i j = mget B i j from subPart_get B c i j q hiB (by rw [HDB.out.2 i hiN]; exact hjM), show mget (subPart B c i j q) c j = mget B c j by rw [mget, subPart_row B c i j c q (by omega)]; rfl,
                          subPart_succ B c i j q hiB (by rw [HDB.out.2 i hiN]; exact hjM) hcj] at h
                        exact h
                      case measure => simp [intOf]; omega
                  · obtain rfl : j = M := by omega
                    have hci0 := hcli
                    have HCe := hide hC
                    clear hcli hC
                    go_wp2_with fail
                    clear hci0
                    go_roundw
                    case rel =>
                      refine ⟨i + 1, by omega, by omega, by go_num, ?_, HS5.out⟩
                      have h := HM5.out
                      rw [← HCe.out, subPart, HBi.out, HBc.out, ← HQe.out, ← HB.out] at h
                      have hl : (A.getD i []).length = j := HDim.out.2 i hiN
                      have h2 := elimPart_succ A c i hci hiA
                      rw [hl] at h2
                      rw [h2] at h
                      exact h
                    case measure => simp [intOf]; omega
          · obtain rfl : i = N := by omega
            go_wp2_with fail
            go_roundw
            case rel =>
              refine ⟨c + 1, (y0, y1, y2, y3), by omega, by go_num, ?_, ?_⟩
              · have h := HM3.out
                rw [← HDim.out.1] at h
                show IsMat _ gm gs caps (elimPart (elimTo rows c) c rows.length)
                rw [HAe.out, HT.out.dim.1, ← HDim.out.1]; exact h
              · show TriSt w gs _ gd _ (detTo rows c * mget (elimTo rows c) c c) _
                rw [HAe.out, HDe.out, HPe.out]; exact HS3.out
            case measure => simp [intOf]; omega
    · obtain rfl : c = N := by omega
      have C := HS.out.2.2.1
      have D := HS.out.1
      have hones := HS.out.2.1.ones
      have p0 := st_any (hones d0 (by simp [r4cells]))
      have p1 := st_any (hones d1 (by simp [r4cells]))
      have p2 := st_any (hones d2 (by simp [r4cells]))
      have p3 := st_any (hones d3 (by simp [r4cells]))
      have e0 := C.cell 0
      have e1 := C.cell 1
      have e2 := C.cell 2
      have e3 := C.cell 3
      have g0 := D.cell 0
      have g1 := D.cell 1
      have g2 := D.cell 2
      have g3 := D.cell 3
      have f0 := C.frozen 0
      have f1 := C.frozen 1
      have f2 := C.frozen 2
      have f3 := C.frozen 3
      simp [r4cells] at e0 e1 e2 e3 g0 g1 g2 g3
      have C' : Blk wr w.heap.size 113 (r4cells z4).toArray := C
      have hEnd := C'.rputAll (d0, d1, d2, d3)
      have hK : Keep (RowB gs c) w (rput4 wr w.heap.size 0 (d0, d1, d2, d3)) := Keep.rput4 HS.out.2.2.2 (.inr (Nat.le_refl _)) _
      have hMe : IsMat (rput4 wr w.heap.size 0 (d0, d1, d2, d3)) gm gs caps (elimTo rows c) :=
        HM.out.keep (Keep.rput4 (S := fun b => b = w.heap.size) (Keep.refl _ wr) (.inl rfl) _) (fun b hb hB => by
          subst hb
          rcases hB with h | ⟨i, hi, h⟩
          · omega
          · have := HGs.out i (by rw [← (HT.out.dim.to c).1]; exact hi); omega) (fun b hb => ⟨113, by rw [hb]; exact C'.ty, by decide⟩)
      have HEnd := hide hEnd; have HK := hide hK; have HMe := hide hMe
      clear hEnd hK hMe C' C D hones
      go_wp2
      exact bodyPost_ret (res4_run rfl rfl HEnd.out) rfl ⟨_, rfl, HMe.out, HK.out⟩

end Go.Proofs.YtncabodphjkkfaaGreat
