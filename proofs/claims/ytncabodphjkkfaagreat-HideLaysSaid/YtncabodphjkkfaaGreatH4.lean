/- Lay. Conditions: none. -/
import Derived.Test.YtncabodphjkkfaaGreatH3
import Derived.Test.YtncabodphjkkfaaGreatApp
namespace Go.Proofs.YtncabodphjkkfaaGreat
open Go.RowKit Go.Limbs

def BadSide (x : Int) : Prop := x < 1 ∨ 1000 < x
instance (x : Int) : Decidable (BadSide x) := by unfold BadSide; infer_instance

theorem bad_any (x : Int) (w : World) : Calls Tryz.prog 44 #[.int .i64 x] w fun e w' => e = .returned (.bool (decide (BadSide x))) ∧ w' = w := by
  by_cases h1 : x < 1
  · have e : decide (BadSide x) = true := by simp [BadSide, h1]
    rw [e]
    have t1 : decide (x < 1) = true := by simpa using h1
    clear h1 e
    go_enter Tryz.func44, Tryz.ntmps44
    go_wp2
    go_ret
    exact ⟨rfl, rfl⟩
  · have t1 : decide (x < 1) = false := by simpa using h1
    have e : decide (BadSide x) = decide (1000 < x) := by simp [BadSide, h1]
    rw [e]
    clear h1 e
    go_enter Tryz.func44, Tryz.ntmps44
    go_wp2
    go_ret
    exact ⟨rfl, rfl⟩

theorem badIndex_any (v : Value) (xs : List Int) (w : World) (hv : Ints w v xs) :
    Calls Tryz.prog 95 #[v, .func (.func 44) #[] #[]] w fun e w' => ∃ k : Int, e = .returned (.int .i64 k) ∧ (0 ≤ k ↔ ∃ x ∈ xs, BadSide x) ∧ w' = w := by
  obtain ⟨A, cap, rfl, hcap, hm, hrd⟩ := hv
  have HRD := hide hrd
  clear hrd
  go_enter Tryz.func95, Tryz.ntmps95
  go_wp2_with fail
  go_loop [8] (fun i => ∃ (k : Nat), k ≤ xs.length ∧ i = .int .i64 (k : Int) ∧ ∀ j, j < k → ¬ BadSide (xs.getD j 0)) (fun i => xs.length - (intOf i).toNat)
  case atStart => exact ⟨0, Nat.zero_le _, rfl, fun j hj => by omega⟩
  case round =>
    obtain ⟨k, hk, rfl, hle⟩ := hrel
    have HL := hide hle
    clear hle
    by_cases hlt : k < xs.length
    · obtain ⟨b, off, rfl, hb, hc⟩ := Ints.at HRD.out hlt
      have hc1 := hc k hlt
      obtain ⟨y, hy⟩ : ∃ y, xs.getD k 0 = y := ⟨_, rfl⟩
      rw [hy] at hc1
      have HY := hide hy
      clear hy hc
      go_wp2_with fail
      refine (bad_any y w).mono ?_
      rintro e w' ⟨rfl, rfl⟩
      by_cases hbad : BadSide y
      · have t1 : decide (BadSide y) = true := by simpa using hbad
        rw [t1]
        have HB := hide hbad
        clear hbad t1
        go_wp2
        go_ret
        refine ⟨k, rfl, ⟨fun _ => ⟨y, ?_, HB.out⟩, fun _ => by omega⟩, rfl⟩
        rw [← HY.out, List.getD, List.getElem?_eq_getElem hlt]
        exact List.getElem_mem hlt
      · have t1 : decide (BadSide y) = false := by simpa using hbad
        rw [t1]
        have HB := hide hbad
        clear hbad t1
        go_wp2
        go_round
        case rel =>
          refine ⟨k + 1, by omega, by go_num, fun j hj => ?_⟩
          rcases Nat.lt_or_ge j k with h | h
          · exact HL.out j h
          · obtain rfl : j = k := by omega
            rw [HY.out]; exact HB.out
        case measure => simp [intOf]; omega
    · obtain rfl : k = xs.length := by omega
      go_wp2
      go_ret
      refine ⟨-1, rfl, ⟨fun h => absurd h (by decide), fun h => ?_⟩, rfl⟩
      obtain ⟨x, hx, hbad⟩ := h
      obtain ⟨j, hj, rfl⟩ := List.getElem_of_mem hx
      exact absurd (by rw [List.getD, List.getElem?_eq_getElem hj]; exact hbad) (HL.out j hj)

theorem badContains_any (v : Value) (xs : List Int) (w : World) (hv : Ints w v xs) :
    Calls Tryz.prog 45 #[v, .func (.func 44) #[] #[]] w fun e w' => e = .returned (.bool (decide (∃ x ∈ xs, BadSide x))) ∧ w' = w := by
  have HV := hide hv
  obtain ⟨A, cap, rfl, hcap, hm, hrd⟩ := hv
  clear hrd
  go_enter Tryz.func45, Tryz.ntmps45
  go_wp2_with fail
  refine (badIndex_any _ xs w HV.out).mono ?_
  rintro e w' ⟨k, rfl, hk, rfl⟩
  have HK := hide hk
  clear hk
  go_wp2
  go_ret
  exact ⟨by rw [← decide_eq_decide.2 HK.out]; rfl, rfl⟩

/-- v is a slice of the squares l. -/
def Sqs (w : World) (v : Value) (l : List Sq) : Prop :=
  ∃ A cap, v = .slice A l.length cap ∧ l.length ≤ cap ∧ l.length ≤ 1152921504606846976 ∧ Rd w 47 A (l.flatMap sqCells)
theorem Sqs.ext {w w' : World} {v : Value} {xs : List Sq} (h : Sqs w v xs) (hb : Ext w w') : Sqs w' v xs := by
  obtain ⟨A, cap, hv, h1, h2, h4⟩ := h
  exact ⟨A, cap, hv, h1, h2, h4.ext hb⟩
theorem info47 : (Tryz.prog.info? 47).map (fun i => (i.zero, i.size, i.bytes)) = some (some (.agg #[.int .i64 0, .int .i64 0, .int .i64 0]), 3, 24) := by kernel_rfl
theorem info3 : (Tryz.prog.info? 3).map (fun i => (i.zero, i.size, i.bytes)) = some (some (.int .i64 0), 1, 8) := by kernel_rfl
theorem sqCells_length (l : List Sq) : (l.flatMap sqCells).length = l.length * 3 := by
  induction l with
  | nil => rfl
  | cons q l ih => rw [List.flatMap_cons, List.length_append, ih, List.length_cons, show (sqCells q).length = 3 from rfl]; omega
theorem sqCells_one (l : List Sq) : ∀ u ∈ l.flatMap sqCells, u.oneCell' = true := by
  intro u hu
  obtain ⟨q, _, hq⟩ := List.mem_flatMap.1 hu
  simp [sqCells] at hq
  rcases hq with rfl | rfl | rfl <;> rfl
theorem Sqs.of_own {w : World} {base : Nat} {v : Value} {l : List Sq} (h : w.ownsRow base 47 3 v l.length (l.flatMap sqCells)) (hl : l.length ≤ 1152921504606846976) : Sqs w v l := by
  obtain ⟨A, cap, rfl, hc, _⟩ := own_slice h
  exact ⟨A, cap, rfl, hc, hl, Rd.of_own h⟩

theorem Blk.grown {w w' : World} {g : Nat} {t : TypeId} {cs : Array Value} {row : Option Nat} (h : Blk w g t cs) (hg : w.grownBy w' row) (hne : row ≠ some g) : Blk w' g t cs := (hg.block g h.lt (fun e => hne e.symm)).trans h
theorem below_grown {B : Nat} {w0 w w' : World} {row : Option Nat} (h : Below B w0 w) (hg : w.grownBy w' row) (hB : B ≤ w.heap.size) (hr : ∀ g, row = some g → B ≤ g) : Below B w0 w' := h.grown hg hB hr
theorem own_ne {w : World} {base size n g : Nat} {e : TypeId} {v : Value} {xs : List Value} (h : w.ownsRow base e size v n xs) (hg : g < base) : v.ownBlock ≠ some g := fun he => by
  have := (h.lt g he).1
  omega

/-- The floor that 'make' makes. -/
theorem mk_floor (n : Nat) (N : Int) (hN : N = n) (hb : n ≤ 17592186044416) : ∀ W : World, (Instr.makeSlice 82 (.int .i64 N) (.int .i64 N)).run Tryz.prog W =
    .ok (.slice (some ⟨W.heap.size, 0, none⟩) n n) (W.alloc (.cells (irow (List.replicate n 0)) 3)) := fun W => by
  obtain ⟨i0, hi, hz0, hz1, hz2⟩ := info_parts info3
  subst hN
  rw [run_make_rowN (P := Tryz.prog) 82 3 i0 _ Tryz.underlying82 hi hz0 .i64 .i64 n n (Nat.le_refl _) (by rw [hz2]; omega) (by omega) W, hz1, madeCells_one _ rfl]
  simp [irow, ival]

def layErr (width : Int) (ss : List Int) : Int :=
  if 24 < ss.length then 3 else if BadSide width ∨ ss.length = 0 ∨ ∃ x ∈ ss, BadSide x then 1 else match lay width.toNat ss with | none => 5 | some _ => 0
def layOut (width : Int) (ss : List Int) : List Sq :=
  if 24 < ss.length then [] else if BadSide width ∨ ss.length = 0 ∨ ∃ x ∈ ss, BadSide x then [] else (lay width.toNat ss).getD []

set_option maxRecDepth 100000 in
set_option maxHeartbeats 4000000 in
theorem lay_any (v : Value) (width : Int) (ss : List Int) (w : World) (hv : Ints w v ss) :
    Calls Tryz.prog 14 #[.int .i64 width, v] w fun e w' => ∃ u, e = .returned (.tuple #[u, .int .i64 (layErr width ss)]) ∧ Sqs w' u (layOut width ss) ∧ Ext w w' := by
  have HV := hide hv
  obtain ⟨A, cap, rfl, hcap, hm, hrd⟩ := hv
  clear hrd
  by_cases h24 : 24 < ss.length
  · have e1 : layErr width ss = 3 := by simp [layErr, h24]
    have e2 : layOut width ss = [] := by simp [layOut, h24]
    rw [e1, e2]
    have t1 : decide ((ss.length : Int) > 24) = true := by simp; omega
    clear e1 e2 h24
    go_enter Tryz.func14, Tryz.ntmps14
    go_wp2
    go_ret2
    exact ⟨_, rfl, ⟨none, 0, rfl, Nat.le_refl _, by simp, Rd.nil⟩, Ext.rfl' _⟩
  · have t1 : decide ((ss.length : Int) > 24) = false := by simp; omega
    by_cases hbad : BadSide width ∨ ss.length = 0 ∨ ∃ x ∈ ss, BadSide x
    · have e1 : layErr width ss = 1 := by unfold layErr; rw [if_neg h24, if_pos hbad]
      have e2 : layOut width ss = [] := by unfold layOut; rw [if_neg h24, if_pos hbad]
      rw [e1, e2]
      have HB := hide hbad
      clear e1 e2 h24 hbad
      go_enter Tryz.func14, Tryz.ntmps14
      go_wp2_with fail
      refine (bad_any width w).mono ?_
      rintro e w' ⟨rfl, rfl⟩
      by_cases hw : BadSide width
      · have t2 : decide (BadSide width) = true := by simpa using hw
        rw [t2]
        clear hw t2
        go_wp2
        go_ret2
        exact ⟨_, rfl, ⟨none, 0, rfl, Nat.le_refl _, by simp, Rd.nil⟩, Ext.rfl' _⟩
      · have t2 : decide (BadSide width) = false := by simpa using hw
        rw [t2]
        have HW := hide hw
        clear hw t2
        by_cases h0 : ss.length = 0
        · have t3 : ((ss.length : Int) == 0) = true := by simp [h0]
          clear h0
          go_wp2
          go_ret2
          exact ⟨_, rfl, ⟨none, 0, rfl, Nat.le_refl _, by simp, Rd.nil⟩, Ext.rfl' _⟩
        · have t3 : ((ss.length : Int) == 0) = false := by simp; exact fun e => h0 (by simp [e])
          have H0 := hide h0
          clear h0
          go_wp2_with fail
          refine (badContains_any _ ss w' HV.out).mono ?_
          rintro e w ⟨rfl, rfl⟩
          have t4 : decide (∃ x ∈ ss, BadSide x) = true := by
            have := HB.out
            have h1 := HW.out; have h2 := H0.out
            simp only [decide_eq_true_eq]
            rcases this with h | h | h
            · exact absurd h h1
            · exact absurd h h2
            · exact h
          rw [t4]
          clear t4
          go_wp2
          go_ret2
          exact ⟨_, rfl, ⟨none, 0, rfl, Nat.le_refl _, by simp, Rd.nil⟩, Ext.rfl' _⟩
    · have hw : ¬ BadSide width := fun h => hbad (.inl h)
      have h0 : ss.length ≠ 0 := fun h => hbad (.inr (.inl h))
      have hx : ¬ ∃ x ∈ ss, BadSide x := fun h => hbad (.inr (.inr h))
      obtain ⟨W, rfl⟩ : ∃ W : Nat, width = W := ⟨width.toNat, by unfold BadSide at hw; omega⟩
      have hW : 1 ≤ W ∧ W ≤ 1000 := by unfold BadSide at hw; omega
      have HE1 := hide (show layErr W ss = match lay W ss with | none => 5 | some _ => 0 by unfold layErr; rw [if_neg h24, if_neg hbad]; rfl)
      have HE2 := hide (show layOut W ss = (lay W ss).getD [] by unfold layOut; rw [if_neg h24, if_neg hbad]; rfl)
      have t2 : decide (BadSide (W : Int)) = false := by simpa using hw
      have t3 : ((ss.length : Int) == 0) = false := by simp; exact fun e => h0 (by simp [e])
      have t4 : decide (∃ x ∈ ss, BadSide x) = false := by simpa using hx
      have HX := hide hx
      have hmk := mk_floor W W rfl (by omega)
      have hl24 : ss.length ≤ 24 := by omega
      have T2 := hide t2; have T4 := hide t4
      clear hbad hw hx h24 t2 t4
      go_enter Tryz.func14, Tryz.ntmps14
      go_wp2_with fail
      refine (bad_any W w).mono ?_
      rintro e w' ⟨rfl, rfl⟩
      rw [T2.out]
      go_wp2_with fail
      refine (badContains_any _ ss w' HV.out).mono ?_
      rintro e w ⟨rfl, rfl⟩
      rw [T4.out]
      go_wp2_with fail
      go_loopw [8, 35] (fun o i wr => ∃ (k : Nat) (out : List Sq) (f : List Int), k ≤ ss.length ∧ i = .int .i64 (k : Int) ∧ layK W ss k = some (out, f) ∧ out.length = k ∧ wr.ownsRow (w.heap.size + 1) 47 3 o k (out.flatMap sqCells) ∧ Floor W f ∧
          Blk wr w.heap.size 3 (irow f) ∧ Below w.heap.size w wr ∧ w.heap.size + 1 ≤ wr.heap.size) (fun _ i _ => ss.length - (intOf i).toNat)
      case atStart => exact ⟨0, [], _, Nat.zero_le _, rfl, rfl, rfl, World.ownsRow_nil _ _ _ _, Floor.zero W, Blk.new _ _ _, (Below.refl _ _).alloc (Nat.le_refl _) _, by simp⟩
      case round =>
        obtain ⟨k, out, f, hk, rfl, hlay, hol, hown, hfl, hB, hBe, hsz⟩ := hrel
        have HL := hide hlay; have HO := hide hol; have HF := hide hfl
        have hfl1 := hfl.1
        clear hlay hol hfl
        by_cases hlt : k < ss.length
        · obtain ⟨s, hs⟩ : ∃ s : Nat, ss.getD k 0 = s ∧ 1 ≤ s ∧ s ≤ 1000 := by
            have h := HX.out
            have h1 : ¬ BadSide (ss.getD k 0) := fun hb => h ⟨_, by rw [List.getD, List.getElem?_eq_getElem hlt]; exact List.getElem_mem hlt, hb⟩
            unfold BadSide at h1
            exact ⟨(ss.getD k 0).toNat, by omega⟩
          obtain ⟨A', cap', hvA, _, _, hrd⟩ := HV.out
          obtain ⟨rfl, rfl⟩ : A = A' ∧ cap = cap' := by injection hvA with h1 h2 h3; exact ⟨h1, h3⟩
          obtain ⟨b, off, rfl, hb, hc⟩ := Ints.at hrd hlt
          have hc1 : wr.cell? ⟨b, off + k, none⟩ = some (.int .i64 (s : Int)) := by rw [← hs.1]; exact (hBe.cell (p := ⟨b, off + k, none⟩) hb.lt).trans (hc k hlt)
          have HS := hide hs.1
          obtain ⟨_, hs1, hs2⟩ := hs
          clear hc hvA hrd
          have hIf : Ints wr (.slice (some ⟨w.heap.size, 0, none⟩) W W) f := by have := Ints.of_blk hB (by omega); rwa [hfl1] at this
          have HIf := hide hIf
          have HOwn := hide hown
          clear hIf hown
          go_wp2_with fail
          refine (next_any _ f wr HIf.out (by omega)).mono ?_
          rintro e w' ⟨a, n, rfl, hnext, q, rfl⟩
          have HN := hide hnext
          have hal := hnext.lt
          have hfit := hnext.fits
          have hy := HF.out.2 a hal
          have hcy : (wr.drewN q).cell? ⟨w.heap.size, a, none⟩ = some (.int .i64 (f.getD a 0)) := by
            have := hB.cell a
            rw [irow_get hal] at this
            exact this
          obtain ⟨y, hye⟩ : ∃ y, f.getD a 0 = y := ⟨_, rfl⟩
          rw [hye] at hy hcy
          have HY := hide hye
          clear hnext hye
          by_cases hbad : n < s ∨ 1000 < y + s
          · have hno : lay W ss = none := lay_none (k := k + 1) (by omega) (layK_succ_none HL.out (by rw [HS.out]; exact layStep_none HN.out hs1 (by rw [HY.out]; exact hbad)))
            have HNo := hide hno
            have hE : Ext w (wr.drewN q) := below_drewN hBe q
            by_cases hsn : n < s
            · have t5 : decide ((s : Int) > n) = true := by simp; omega
              clear hno hbad
              go_wp2
              go_ret2
              exact ⟨_, by rw [HE1.out, HNo.out]; rfl, by rw [HE2.out, HNo.out]; exact ⟨none, 0, rfl, Nat.le_refl _, by simp, Rd.nil⟩, hE⟩
            · have t5 : decide ((s : Int) > n) = false := by simp; omega
              have t6 : decide (y + (s : Int) > 1000) = true := by simp; omega
              clear hno hbad
              go_wp2
              go_ret2
              exact ⟨_, by rw [HE1.out, HNo.out]; rfl, by rw [HE2.out, HNo.out]; exact ⟨none, 0, rfl, Nat.le_refl _, by simp, Rd.nil⟩, hE⟩
          · have t5 : decide ((s : Int) > n) = false := by simp; omega
            have t6 : decide (y + (s : Int) > 1000) = false := by simp; omega
            have hyes : layK W ss (k + 1) = some (out ++ [((a : Int), y, (s : Int))], addTo f a s s) := layK_succ_some HL.out (by rw [HS.out, layStep_some HN.out hs1 (by omega) (by rw [HY.out]; omega), HY.out])
            have HYes := hide hyes
            have hsn : s ≤ n := by omega
            have hys : y + s ≤ 1000 := by omega
            clear hyes hbad
            obtain ⟨i0, hi, hz0, hz1, hz2⟩ := info_parts info47
            have hown := (show (wr.drewN q).ownsRow (w.heap.size + 1) 47 3 u8 k (out.flatMap sqCells) from HOwn.out).alloc (.cells #[.int .i64 (a : Int), .int .i64 y, .int .i64 (s : Int)] 47)
            have hB1 := (hB.drewN q).alloc (.cells #[.int .i64 (a : Int), .int .i64 y, .int .i64 (s : Int)] 47)
            have hE1 : Below w.heap.size w ((wr.drewN q).alloc (.cells #[.int .i64 (a : Int), .int .i64 y, .int .i64 (s : Int)] 47)) := (below_drewN hBe q).alloc (by show w.heap.size ≤ (wr.drewN q).heap.size; have : (wr.drewN q).heap.size = wr.heap.size := rfl; omega) _
            have hsrc : Rd ((wr.drewN q).alloc (.cells #[.int .i64 (a : Int), .int .i64 y, .int .i64 (s : Int)] 47)) 47 (some ⟨wr.heap.size, 0, none⟩) (sqCells ((a : Int), y, (s : Int))) := Rd.of_blk (Blk.new _ _ _) 0 _ (fun j hj => by
              have : j = 0 ∨ j = 1 ∨ j = 2 := by have : (sqCells ((a : Int), y, (s : Int))).length = 3 := rfl
                                                 omega
              rcases this with rfl | rfl | rfl <;> rfl)
            have HRd := hide (hsrc.reads 3 1 rfl (by omega))
            have HOwn1 := hide hown
            clear hown hsrc
            go_wp2_with (at_builtin; refine App.wpList_append_any _ rfl (.tmp 56) (.tmp 64) 23 rfl (w.heap.size + 1) 47 i0 _ 3 24 Tryz.underlying23 hi hz0 hz1 hz2 rfl (by omega) u8 k (out.flatMap sqCells) rfl HOwn1.out _ _ 1 1 _ rfl HRd.out (by intro u hu; exact sqCells_one [_] u (by simpa using hu)) (by simp only [maxLen]; omega) (by omega) (by simp; omega) ?_; intro v1 w1 hown1 hg1 hat1)
            have hne : u8.ownBlock ≠ some w.heap.size := own_ne HOwn1.out (by omega)
            have hB2 := hB1.grown hg1 hne
            have hE2 : Below w.heap.size w w1 := below_grown hE1 hg1 (by simp; omega) (fun g hg => by have := (HOwn1.out.lt g hg).1; omega)
            have hput := put_any w.heap.size f a s s w1 hB2 (by omega) (by omega) (fun j hj => by have := HF.out.2 j hj; omega) (by omega)
            rw [hfl1] at hput
            have hsz1 : w.heap.size + 1 ≤ w1.heap.size := Nat.le_trans (by simp; omega) hg1.size
            clear HOwn1 HRd hB1 hE1 hne
            have HOwn2 := hide hown1
            clear hown1 hg1 hat1
            refine hput.mono ?_
            rintro e w2 ⟨rfl, hB3, hg2⟩
            have hE3 : Below w.heap.size w w2 := below_grown hE2 hg2 (by omega) (fun g hg => by injection hg with hg; omega)
            have hown3 := HOwn2.out.kept hg2 (.inr (own_ne HOwn2.out (by omega)))
            have hsz2 := hg2.size
            have HR := hide hown3
            clear hput hown3 HOwn2
            go_wp2_with fail
            go_roundw
            case rel =>
              refine ⟨k + 1, _, _, by omega, by go_num, HYes.out, by simp [HO.out], ?_, HF.out.step HN.out hsn (by rw [HY.out]; omega), hB3, hE3, by omega⟩
              have h := HR.out
              rw [List.flatMap_append]
              rw [show [((a : Int), y, (s : Int))].flatMap sqCells = sqCells ((a : Int), y, (s : Int)) by simp]
              exact h
            case measure => simp [intOf]; omega
        · obtain rfl : k = ss.length := by omega
          have hIf : Ints wr (.slice (some ⟨w.heap.size, 0, none⟩) W W) f := by have := Ints.of_blk hB (by omega); rwa [hfl1] at this
          have HIf := hide hIf
          have HOwn := hide hown
          clear hIf hown
          go_wp2_with fail
          refine (min_any _ f wr HIf.out (by omega)).mono ?_
          rintro e w' ⟨m, rfl, hmin, rfl⟩
          have HMin := hide hmin
          clear hmin
          go_wp2_with fail
          refine (max_any _ f w' HIf.out (by omega)).mono ?_
          rintro e wr ⟨M, rfl, hmax, rfl⟩
          have HMax := hide hmax
          clear hmax
          have hlv := lay_level HL.out HMin.out HMax.out
          by_cases hmM : m = M
          · rw [if_pos hmM] at hlv
            have t7 : (m != M) = false := by simp [hmM]
            have HLv := hide hlv
            clear hlv hmM
            have hS : Sqs wr u8 out := Sqs.of_own (by rw [HO.out]; exact HOwn.out) (by rw [HO.out]; omega)
            go_wp2
            go_ret2
            exact ⟨_, by rw [HE1.out, HLv.out]; rfl, by rw [HE2.out, HLv.out]; exact hS, hBe⟩
          · rw [if_neg hmM] at hlv
            have t7 : (m != M) = true := by simp [hmM]
            have HLv := hide hlv
            clear hlv hmM
            go_wp2
            go_ret2
            exact ⟨_, by rw [HE1.out, HLv.out]; rfl, by rw [HE2.out, HLv.out]; exact ⟨none, 0, rfl, Nat.le_refl _, by simp, Rd.nil⟩, hBe⟩

end Go.Proofs.YtncabodphjkkfaaGreat
