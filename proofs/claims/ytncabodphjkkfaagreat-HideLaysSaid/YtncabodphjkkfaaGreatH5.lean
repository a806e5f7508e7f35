/- The reference's Lay. Conditions: none. -/
import Derived.Test.YtncabodphjkkfaaGreatH4
namespace Go.Proofs.YtncabodphjkkfaaGreat
open Go.RowKit Go.Limbs

theorem mk_ints (n : Nat) (N : Int) (hN : N = n) (hb : n ≤ 17592186044416) : ∀ W : World, (Instr.makeSlice 22 (.int .i64 N) (.int .i64 N)).run Tryz.prog W =
    .ok (.slice (some ⟨W.heap.size, 0, none⟩) n n) (W.alloc (.cells (irow (List.replicate n 0)) 3)) := fun W => by
  obtain ⟨i0, hi, hz0, hz1, hz2⟩ := info_parts info3
  subst hN
  rw [run_make_rowN (P := Tryz.prog) 22 3 i0 _ Tryz.underlying22 hi hz0 .i64 .i64 n n (Nat.le_refl _) (by rw [hz2]; omega) (by omega) W, hz1, madeCells_one _ rfl]
  simp [irow, ival]

theorem own_ext {w w' : World} {base size n : Nat} {e : TypeId} {v : Value} {xs : List Value} (h : w.ownsRow base e size v n xs) (E : Ext w w') : w'.ownsRow base e size v n xs :=
  h.kept (row := none) ⟨E.os, E.tape, E.output, E.size, fun g hg _ => E.block g hg⟩ (Decidable.em _)

theorem lay_all_some {w : Nat} {ss : List Int} {out : List Sq} {f : List Int} (h : layK w ss ss.length = some (out, f)) (ha : ∀ j, j < f.length → f.getD j 0 = f.getD 0 0) : lay w ss = some out := by
  unfold lay
  rw [h, Option.bind_some]
  refine if_pos ?_
  rw [List.all_eq_true]
  intro y hy
  obtain ⟨j, hj, rfl⟩ := List.getElem_of_mem hy
  rw [beq_iff_eq, ← ha j hj, List.getD, List.getElem?_eq_getElem hj]; rfl
theorem lay_all_none {w : Nat} {ss : List Int} {out : List Sq} {f : List Int} (h : layK w ss ss.length = some (out, f)) {j : Nat} (hj : j < f.length) (hne : f.getD j 0 ≠ f.getD 0 0) : lay w ss = none := by
  unfold lay
  rw [h, Option.bind_some]
  refine if_neg ?_
  intro ha
  rw [List.all_eq_true] at ha
  have := ha (f.getD j 0) (by rw [List.getD, List.getElem?_eq_getElem hj]; exact List.getElem_mem hj)
  rw [beq_iff_eq] at this
  exact hne this

def minTo (f : List Int) (k : Nat) : Nat := (List.range k).foldl (fun x k => if f.getD k 0 < f.getD x 0 then k else x) 0
theorem minTo_succ (f : List Int) (k : Nat) : minTo f (k + 1) = if f.getD k 0 < f.getD (minTo f k) 0 then k else minTo f k := by
  unfold minTo; rw [List.range_succ, List.foldl_append]; rfl
theorem minTo_lt (f : List Int) (k w : Nat) (hk : k ≤ w) (hw : 0 < w) : minTo f k < w := by
  rcases Nat.eq_zero_or_pos k with rfl | h
  · exact hw
  · obtain ⟨x, hx, h1, _⟩ := firstMin_inv f k h
    unfold minTo; rw [hx]; omega

theorem layStep_no {f : List Int} {x s : Nat} {y : Int} (h : firstMin f = x) (hy : f.getD x 0 = y) (hbad : f.length < x + s ∨ 1000 < y + s ∨ ∃ t, t < s ∧ y < f.getD (x + t) 0) : layStep f (s : Int) = none := by
  unfold layStep
  rw [h, hy, if_neg]
  rintro ⟨h1, h2, h3⟩
  rcases hbad with hb | hb | ⟨t, ht, hb⟩
  · omega
  · omega
  · rw [List.all_eq_true] at h3
    have h4 := h3 t (by simp; omega)
    simp only [decide_eq_true_eq] at h4
    omega
theorem layStep_yes {f : List Int} {x s : Nat} {y : Int} (h : firstMin f = x) (hy : f.getD x 0 = y) (h1 : x + s ≤ f.length) (h2 : y + s ≤ 1000) (h3 : ∀ t, t < s → f.getD (x + t) 0 ≤ y) : layStep f (s : Int) = some (((x : Int), y, (s : Int)), addTo f x s s) := by
  unfold layStep
  rw [h, hy, if_pos]
  · rfl
  · refine ⟨by omega, h2, ?_⟩
    rw [List.all_eq_true]
    intro t ht
    simp only [decide_eq_true_eq]
    exact h3 t (by simp at ht; omega)

set_option maxRecDepth 100000 in
set_option maxHeartbeats 4000000 in
theorem refLay_any (v : Value) (W : Nat) (ss : List Int) (w : World) (hv : Ints w v ss) (hW : 1 ≤ W ∧ W ≤ 1000) (hl24 : ss.length ≤ 24) (hx : ¬ ∃ x ∈ ss, BadSide x) :
    Calls Tryz.prog 15 #[.int .i64 (W : Int), v] w fun e w' => ∃ u, e = .returned (.tuple #[u, .bool (lay W ss).isSome]) ∧ Sqs w' u ((lay W ss).getD []) ∧ Ext w w' := by
  have HV := hide hv
  have HX := hide hx
  obtain ⟨A, cap, rfl, hcap, hm, hrd⟩ := hv
  have hmk := mk_ints W W rfl (by omega)
  clear hrd hx
  go_enter Tryz.func15, Tryz.ntmps15
  go_wp2_with fail
  have hown0 := World.ownsRow_lit (base := w.heap.size + 1) (e := 47) (size := 3) (w.alloc (.cells (irow (List.replicate W 0)) 3)) #[] 0 (by simp) (by decide) rfl
  rw [show (w.alloc (.cells (irow (List.replicate W 0)) 3)).heap.size = w.heap.size + 1 by simp] at hown0
  have HOwn0 := hide hown0
  clear hown0
  go_loopw [7, 8] (fun o i wr => ∃ (k : Nat) (out : List Sq) (f : List Int), k ≤ ss.length ∧ i = .int .i64 (k : Int) ∧ layK W ss k = some (out, f) ∧ out.length = k ∧ wr.ownsRow (w.heap.size + 1) 47 3 o k (out.flatMap sqCells) ∧ Floor W f ∧
      Blk wr w.heap.size 3 (irow f) ∧ Below w.heap.size w wr ∧ w.heap.size + 1 ≤ wr.heap.size) (fun _ i _ => ss.length - (intOf i).toNat)
  case atStart =>
    refine ⟨0, [], _, Nat.zero_le _, rfl, rfl, rfl, HOwn0.out, Floor.zero W, (Blk.new _ _ _).alloc _, ((Below.refl _ _).alloc (Nat.le_refl _) _).alloc (by simp) _, by simp⟩
  case round =>
    obtain ⟨k, out, f, hk, rfl, hlay, hol, hown, hfl, hB, hBe, hsz⟩ := hrel
    have HL := hide hlay; have HO := hide hol; have HF := hide hfl; have HOwn := hide hown
    have hfl1 := hfl.1
    clear hlay hol hfl hown HOwn0
    by_cases hlt : k < ss.length
    · obtain ⟨s, hs⟩ : ∃ s : Nat, ss.getD k 0 = s ∧ 1 ≤ s ∧ s ≤ 1000 := by
        have h := HX.out
        have h1 : ¬ BadSide (ss.getD k 0) := fun hb => h ⟨_, by rw [List.getD, List.getElem?_eq_getElem hlt]; exact List.getElem_mem hlt, hb⟩
        unfold BadSide at h1
        exact ⟨(ss.getD k 0).toNat, by omega⟩
      obtain ⟨A', cap', hvA, _, _, hrd⟩ := HV.out
      obtain ⟨rfl, rfl⟩ : A = A' ∧ cap = cap' := by injection hvA with h1 h2 h3; exact ⟨h1, h3⟩
      obtain ⟨b, off, rfl, hb, hc⟩ := Ints.at hrd hlt
      have hc1 : wr.cell? ⟨b, off + k, none⟩ = some (.int .i64 (s : Int)) := by rw [← hs.1]; exact (hBe.cell (p := ⟨b, off + k, none⟩) hb.lt).trans (hc k hlt)
      have HS := hide hs.1
      have HC1 := hide hc1
      obtain ⟨_, hs1, hs2⟩ := hs
      clear hc hvA hrd hc1
      go_wp2_with fail
      go_loopw [9, 10] (fun x i wq => ∃ (m q : Nat), m ≤ W ∧ i = .int .i64 (m : Int) ∧ x = .int .i64 (minTo f m : Nat) ∧ wq = wr.drewN q) (fun _ i _ => W - (intOf i).toNat)
      case atStart => exact ⟨0, 0, Nat.zero_le _, rfl, rfl, rfl⟩
      case round =>
        obtain ⟨m, q, hm2, rfl, rfl, rfl⟩ := hrel
        by_cases hmW : m < W
        · have hxl := minTo_lt f m W hm2 (by omega)
          obtain ⟨x, hxe⟩ : ∃ x, minTo f m = x := ⟨_, rfl⟩
          rw [hxe] at hxl ⊢
          have hca : wr.cell? ⟨w.heap.size, m, none⟩ = some (.int .i64 (f.getD m 0)) := by rw [hB.cell, irow_get (by omega)]
          have hcb : wr.cell? ⟨w.heap.size, x, none⟩ = some (.int .i64 (f.getD x 0)) := by rw [hB.cell, irow_get (by omega)]
          obtain ⟨y, hy⟩ : ∃ y, f.getD m 0 = y := ⟨_, rfl⟩
          obtain ⟨z, hz⟩ : ∃ z, f.getD x 0 = z := ⟨_, rfl⟩
          rw [hy] at hca
          rw [hz] at hcb
          have HXe := hide hxe; have HY := hide hy; have HZ := hide hz
          clear hxe hy hz
          by_cases hyz : y < z
          · have t1 : decide (y < z) = true := by simpa using hyz
            have HYZ := hide hyz
            clear hyz
            go_wp2_with fail
            go_quiet (fail)
            go_wp2_with fail
            go_roundw
            case rel => exact ⟨m + 1, _, by omega, by go_num, by rw [minTo_succ, HXe.out, HY.out, HZ.out, if_pos HYZ.out], by first | rfl | rw [World.drewN_drewN]⟩
            case measure => simp [intOf]; omega
          · have t1 : decide (y < z) = false := by simpa using hyz
            have HYZ := hide hyz
            clear hyz
            go_wp2_with fail
            go_quiet (fail)
            go_wp2_with fail
            go_roundw
            case rel => exact ⟨m + 1, _, by omega, by go_num, by rw [minTo_succ, HXe.out, HY.out, HZ.out, if_neg (Int.not_lt.2 HYZ.out)], by first | rfl | rw [World.drewN_drewN]⟩
            case measure => simp [intOf]; omega
        · obtain rfl : m = W := by omega
          have hmin := firstMin_spec f (by omega)
          obtain ⟨x, hxe⟩ : ∃ x, firstMin f = x := ⟨_, rfl⟩
          have hxe2 : minTo f m = x := by rw [← hxe]; unfold minTo firstMin; rw [hfl1]
          rw [hxe] at hmin
          rw [hxe2]
          obtain ⟨hxl, hxmin, _⟩ := hmin
          have hcy : wr.cell? ⟨w.heap.size, x, none⟩ = some (.int .i64 (f.getD x 0)) := by rw [hB.cell, irow_get hxl]
          have hyb := HF.out.2 x hxl
          obtain ⟨y, hy⟩ : ∃ y, f.getD x 0 = y := ⟨_, rfl⟩
          rw [hy] at hcy hyb hxmin
          have hcs := HC1.out
          have hbl : b < wr.heap.size := Nat.lt_of_lt_of_le hb.lt (by omega)
          have hxm : x < m := by omega
          have hfl : w.heap.size < wr.heap.size := by omega
          have EZ : Ext wr ((wr.drewN (q + 1)).alloc (.cells #[.int .i64 0, .int .i64 0, .int .i64 0] 47)) := (below_drewN (Below.refl _ _) (q + 1)).alloc (Nat.le_refl _) _
          have BZ : Blk ((wr.drewN (q + 1)).alloc (.cells #[.int .i64 0, .int .i64 0, .int .i64 0] 47)) wr.heap.size 47 #[.int .i64 0, .int .i64 0, .int .i64 0] := Blk.new' _ _ _ _ rfl
          have hcs2 := (EZ.cell (p := ⟨b, off + k, none⟩) hbl).trans hcs
          have hcy2 := (EZ.cell (p := ⟨w.heap.size, x, none⟩) hfl).trans hcy
          have z0 := BZ.cell 0
          have z1 := BZ.cell 1
          have z2 := BZ.cell 2
          have f0 := BZ.frozen 0
          have f1 := BZ.frozen 1
          have f2 := BZ.frozen 2
          simp only [List.getElem?_toArray, List.getElem?_cons_zero, List.getElem?_cons_succ] at z0 z1 z2
          have HXe := hide hxe; have HY := hide hy; have HMin := hide hxmin
          clear hxe hxe2 hy hxmin
          go_wp2_with fail
          go_region
          have BQ := ((BZ.set_ 0 (.int .i64 (x : Int))).set_ 1 (.int .i64 y)).set_ 2 (.int .i64 (s : Int))
          have EQ : Ext wr _ := ((EZ.setCell (p := ⟨wr.heap.size, 0, none⟩) (Nat.le_refl _) (.int .i64 (x : Int))).setCell (p := ⟨wr.heap.size, 1, none⟩) (Nat.le_refl _) (.int .i64 y)).setCell (p := ⟨wr.heap.size, 2, none⟩) (Nat.le_refl _) (.int .i64 (s : Int))
          obtain ⟨wz, hwz⟩ : ∃ wz, (((((wr.drewN (q + 1)).alloc (.cells #[.int .i64 0, .int .i64 0, .int .i64 0] 47)).setCell ⟨wr.heap.size, 0, none⟩ (.int .i64 (x : Int))).setCell ⟨wr.heap.size, 1, none⟩ (.int .i64 y)).setCell ⟨wr.heap.size, 2, none⟩ (.int .i64 (s : Int))) = wz := ⟨_, rfl⟩
          rw [hwz] at BQ EQ ⊢
          clear hwz z0 z1 z2 f0 f1 f2 hcs2 hcy2 EZ BZ hcs hcy
          replace BQ : Blk wz wr.heap.size 47 #[.int .i64 (x : Int), .int .i64 y, .int .i64 (s : Int)] := BQ
          have hB := hB.ext EQ
          have z0 := BQ.cell 0
          have z1 := BQ.cell 1
          have z2 := BQ.cell 2
          simp only [List.getElem?_toArray, List.getElem?_cons_zero, List.getElem?_cons_succ] at z0 z1 z2
          have hEz : Ext w wz := hBe.trans (EQ.mono hBe.size)
          have hlen := hfl1
          by_cases hbad : m < x + s ∨ 1000 < y + s
          · have hno : lay m ss = none := lay_none (k := k + 1) (by omega) (layK_succ_none HL.out (by rw [HS.out]; exact layStep_no HXe.out HY.out (hbad.elim (fun h => .inl (by omega)) (fun h => .inr (.inl h)))))
            have HNo := hide hno
            by_cases hsn : m < x + s
            · have t5 : decide ((x : Int) + s > m) = true := by simp; omega
              clear hno hbad
              go_wp2
              go_ret2
              exact ⟨_, by rw [HNo.out]; rfl, by rw [HNo.out]; exact ⟨none, 0, rfl, Nat.le_refl _, by simp, Rd.nil⟩, hEz⟩
            · have t5 : decide ((x : Int) + s > m) = false := by simp; omega
              have t6 : decide (y + (s : Int) > 1000) = true := by simp; omega
              clear hno hbad
              go_wp2
              go_ret2
              exact ⟨_, by rw [HNo.out]; rfl, by rw [HNo.out]; exact ⟨none, 0, rfl, Nat.le_refl _, by simp, Rd.nil⟩, hEz⟩
          · have t5 : decide ((x : Int) + s > m) = false := by simp; omega
            have t6 : decide (y + (s : Int) > 1000) = false := by simp; omega
            have hxs : x + s ≤ m := by omega
            have hys : y + s ≤ 1000 := by omega
            clear hbad
            have HBz := hide hB
            have hszz := EQ.size
            clear hB
            go_wp2_with fail
            obtain ⟨w0, hw0⟩ : ∃ w0, w0 = wr := ⟨_, rfl⟩
            subst hw0
            go_loopw [12] (fun i w3 => ∃ t : Nat, t ≤ s ∧ i = .int .i64 ((x + t : Nat) : Int) ∧ Blk w3 w.heap.size 3 (irow (addTo f x t s)) ∧ wz.grownBy w3 (some w.heap.size) ∧ ∀ j, j < t → f.getD (x + j) 0 ≤ y) (fun i _ => x + s - (intOf i).toNat)
            case atStart => exact ⟨0, Nat.zero_le _, rfl, by rw [addTo_zero]; exact HBz.out, grown_refl _ _, fun j hj => by omega⟩
            case round =>
              obtain ⟨t, ht, rfl, hB3, hG, hle⟩ := hrel
              have HLe := hide hle
              clear hle
              have BQ3 := BQ.grown hG (by intro e; injection e with e; omega)
              have z0 := BQ3.cell 0
              have z1 := BQ3.cell 1
              have z2 := BQ3.cell 2
              simp only [List.getElem?_toArray, List.getElem?_cons_zero, List.getElem?_cons_succ] at z0 z1 z2
              by_cases hts : t < s
              · have hct : wr.cell? ⟨w.heap.size, x + t, none⟩ = some (.int .i64 (f.getD (x + t) 0)) := by
                  rw [hB3.cell, irow_get (by rw [addTo_length]; omega), addTo_get _ _ _ _ _ (by omega), if_neg (by omega)]
                have hft := hB3.frozen (x + t)
                have hge := HMin.out (x + t) (by omega)
                obtain ⟨z, hz⟩ : ∃ z, f.getD (x + t) 0 = z := ⟨_, rfl⟩
                obtain ⟨i, hi⟩ : ∃ i, x + t = i := ⟨_, rfl⟩
                have hset : z = y → Blk (wr.setCell ⟨w.heap.size, i, none⟩ (.int .i64 (y + s))) w.heap.size 3 (irow (addTo f x (t + 1) s)) := by
                  intro e
                  have h := hB3.set_ (x + t) (.int .i64 (y + s))
                  rw [irow_set, ← e, ← hz, addTo_succ _ _ _ _ (by omega)] at h
                  rw [← e, ← hz, ← hi]; exact h
                have hG2 := grown_set hG i (.int .i64 (y + s))
                rw [hz] at hct hge
                rw [hi] at hct hft ⊢
                have HI := hide hi; have HZ := hide hz
                have hl1 : i < m := by omega
                have hl2 : (i : Int) < (x : Int) + s := by omega
                have hG3 := hG
                clear hi hz hB3 hG
                by_cases hzy : y < z
                · have t7 : decide (z > y) = true := by simpa using hzy
                  have hno : lay m ss = none := lay_none (k := k + 1) (by omega) (layK_succ_none HL.out (by rw [HS.out]; exact layStep_no HXe.out HY.out (.inr (.inr ⟨t, hts, by rw [HZ.out]; exact hzy⟩))))
                  have HNo := hide hno
                  have hE3 : ∀ q, Ext w (wr.drewN q) := fun q => below_drewN (hEz.grown hG3 (Nat.le_trans hEz.size (Nat.le_refl _)) (fun g hg => by injection hg with hg; omega)) q
                  clear hno hzy
                  go_wp2_with fail
                  go_quiet (fail)
                  go_wp2
                  go_ret2
                  exact ⟨_, by rw [HNo.out]; rfl, by rw [HNo.out]; exact ⟨none, 0, rfl, Nat.le_refl _, by simp, Rd.nil⟩, hE3 _⟩
                · have t7 : decide (z > y) = false := by simpa using hzy
                  have hzy2 : z = y := by omega
                  have hB4 := hset hzy2
                  have HZY := hide hzy2
                  clear hzy hset hzy2
                  go_wp2_with fail
                  go_quiet (fail)
                  go_wp2_with fail
                  go_roundw
                  case rel =>
                    refine ⟨t + 1, by omega, by rw [← HI.out]; go_num, hB4, grown_set (grown_drewN hG3 _) i _, fun j hj => ?_⟩
                    rcases Nat.lt_or_ge j t with h | h
                    · exact HLe.out j h
                    · obtain rfl : j = t := by omega
                      rw [HZ.out, HZY.out]; exact Int.le_refl _
                  case measure => simp [intOf]; omega
              · obtain rfl : t = s := by omega
                have hyes : layK m ss (k + 1) = some (out ++ [((x : Int), y, (t : Int))], addTo f x t t) := layK_succ_some HL.out (by rw [HS.out]; exact layStep_yes HXe.out HY.out (by omega) hys HLe.out)
                have HYes := hide hyes
                have hfl2 : Floor m (addTo f x t t) := by
                  refine ⟨by rw [addTo_length]; exact hfl1, fun j hj => ?_⟩
                  rw [addTo_length] at hj
                  rw [addTo_get _ _ _ _ _ hj]
                  have h1 := HF.out.2 j hj
                  split
                  · have h2 := HLe.out (j - x) (by omega)
                    rw [show x + (j - x) = j by omega] at h2
                    omega
                  · exact h1
                have HFl2 := hide hfl2
                have hE4 : Below w.heap.size w wr := hEz.grown hG hEz.size (fun g hg => by injection hg with hg; omega)
                have hown := ((own_ext HOwn.out EQ).kept hG (.inr (own_ne HOwn.out (by omega)))).alloc (.cells #[.int .i64 (x : Int), .int .i64 y, .int .i64 (t : Int)] 47)
                have hszr := hG.size
                have hB1 := hB3.alloc (.cells #[.int .i64 (x : Int), .int .i64 y, .int .i64 (t : Int)] 47)
                have hE1 := hE4.alloc (by omega) (.cells #[.int .i64 (x : Int), .int .i64 y, .int .i64 (t : Int)] 47)
                have hsrc : Rd (wr.alloc (.cells #[.int .i64 (x : Int), .int .i64 y, .int .i64 (t : Int)] 47)) 47 (some ⟨wr.heap.size, 0, none⟩) (sqCells ((x : Int), y, (t : Int))) := Rd.of_blk (Blk.new _ _ _) 0 _ (fun j hj => by
                  have : j = 0 ∨ j = 1 ∨ j = 2 := by have : (sqCells ((x : Int), y, (t : Int))).length = 3 := rfl
                                                     omega
                  rcases this with rfl | rfl | rfl <;> rfl)
                have HRd := hide (hsrc.reads 3 1 rfl (by omega))
                have HOwn1 := hide hown
                obtain ⟨i0, hi, hz0, hz1, hz2⟩ := info_parts info47
                clear hown hsrc hG hyes hfl2
                go_wp2_with (at_builtin; refine App.wpList_append_any _ rfl (.tmp 86) (.tmp 88) 23 rfl (w.heap.size + 1) 47 i0 _ 3 24 Tryz.underlying23 hi hz0 hz1 hz2 rfl (by omega) u7 k (out.flatMap sqCells) rfl HOwn1.out _ _ 1 1 _ rfl HRd.out (by intro u hu; exact sqCells_one [_] u (by simpa using hu)) (by simp only [maxLen]; omega) (by omega) (by simp; omega) ?_; intro v1 w1 hown1 hg1 hat1)
                have hne : u7.ownBlock ≠ some w.heap.size := own_ne HOwn1.out (by omega)
                have hB2 := hB1.grown hg1 hne
                have hE2 : Below w.heap.size w w1 := below_grown hE1 hg1 (by simp; omega) (fun g hg => by have := (HOwn1.out.lt g hg).1; omega)
                have hsz1 : w.heap.size + 1 ≤ w1.heap.size := Nat.le_trans (by simp; omega) hg1.size
                clear HOwn1 HRd hB1 hE1 hne
                have HOwn2 := hide hown1
                clear hown1 hg1 hat1
                go_roundw
                case rel =>
                  refine ⟨k + 1, _, _, by omega, by go_num, HYes.out, by simp [HO.out], ?_, HFl2.out, hB2, hE2, by omega⟩
                  have h := HOwn2.out
                  rw [List.flatMap_append]
                  rw [show [((x : Int), y, (t : Int))].flatMap sqCells = sqCells ((x : Int), y, (t : Int)) by simp]
                  exact h
                case measure => simp [intOf]; omega
    · obtain rfl : k = ss.length := by omega
      have hS : ∀ q, Sqs (wr.drewN q) u7 out := fun q => Sqs.of_own (by rw [HO.out]; exact HOwn.out) (by rw [HO.out]; omega)
      have HSq := hide hS
      have hEq : ∀ q, Ext w (wr.drewN q) := fun q => below_drewN hBe q
      have HEq := hide hEq
      clear hS hEq
      obtain ⟨w0, hw0⟩ : ∃ w0, w0 = wr := ⟨_, rfl⟩
      subst hw0
      go_wp2_with fail
      go_loopw [13] (fun i wq => ∃ (m q : Nat), m ≤ W ∧ i = .int .i64 (m : Int) ∧ (∀ j, j < m → f.getD j 0 = f.getD 0 0) ∧ wq = w0.drewN q) (fun i _ => W - (intOf i).toNat)
      case atStart => exact ⟨0, 0, Nat.zero_le _, rfl, fun j hj => by omega, rfl⟩
      case round =>
        obtain ⟨m, q, hm2, rfl, ha, rfl⟩ := hrel
        have HA := hide ha
        clear ha
        by_cases hmW : m < W
        · have hca : w0.cell? ⟨w.heap.size, m, none⟩ = some (.int .i64 (f.getD m 0)) := by rw [hB.cell, irow_get (by omega)]
          have hcb : w0.cell? ⟨w.heap.size, 0, none⟩ = some (.int .i64 (f.getD 0 0)) := by rw [hB.cell, irow_get (by omega)]
          have hne := fun h => lay_all_none (j := m) HL.out (by omega) h
          obtain ⟨y, hy⟩ : ∃ y, f.getD m 0 = y := ⟨_, rfl⟩
          obtain ⟨z, hz⟩ : ∃ z, f.getD 0 0 = z := ⟨_, rfl⟩
          rw [hy, hz] at hne
          rw [hy] at hca
          rw [hz] at hcb
          have h0m : 0 < m + 1 := by omega
          have h0W : (0 : Int) < W := by omega
          have HY := hide hy; have HZ := hide hz; have HNe := hide hne
          clear hy hz hne
          by_cases hyz : y = z
          · have t1 : (y != z) = false := by simp [hyz]
            have HYZ := hide hyz
            clear hyz
            go_wp2_with fail
            go_quiet (fail)
            go_wp2_with fail
            go_roundw
            case rel =>
              refine ⟨m + 1, _, by omega, by go_num, fun j hj => ?_, by first | rfl | rw [World.drewN_drewN]⟩
              rcases Nat.lt_or_ge j m with h | h
              · exact HA.out j h
              · obtain rfl : j = m := by omega
                rw [HY.out, HZ.out, HYZ.out]
            case measure => simp [intOf]; omega
          · have t1 : (y != z) = true := by simp [hyz]
            have hno := HNe.out hyz
            have HNo := hide hno
            clear hno
            go_wp2_with fail
            go_quiet (fail)
            go_wp2
            go_ret2
            exact ⟨_, by rw [HNo.out]; rfl, by rw [HNo.out]; exact ⟨none, 0, rfl, Nat.le_refl _, by simp, Rd.nil⟩, by first | exact HEq.out _ | (rw [World.drewN_drewN]; exact HEq.out _)⟩
        · obtain rfl : m = W := by omega
          have hyes := lay_all_some HL.out (fun j hj => HA.out j (by omega))
          have HYes := hide hyes
          clear hyes
          go_wp2
          go_ret2
          exact ⟨_, by rw [HYes.out]; rfl, by rw [HYes.out]; exact HSq.out q, HEq.out q⟩

end Go.Proofs.YtncabodphjkkfaaGreat
