/- HideLays answers true. Conditions: none. -/
import Derived.Test.YtncabodphjkkfaaGreatL2
import Derived.Test.YtncabodphjkkfaaGreatH5
import Derived.Test.YtncabodphjkkfaaGreatH6
namespace Go.Proofs.YtncabodphjkkfaaGreat
open Go.RowKit Go.Limbs Go.Shelf

/-- A is where the ints ys lie. -/
def Came (w : World) (A : Option Addr) (ys : List Int) : Prop :=
  0 < ys.length → ∃ a, A = some a ∧ a.block < w.heap.size ∧ ∀ i, i < ys.length → w.cell? (a.add i) = some (.int .i64 (ys.getD i 0))

theorem copy_append (w : World) (A : Option Addr) (cap n : Nat) (ys : List Int) (hn : n ≤ ys.length) (h25 : n ≤ 25) (hR : Came w A ys) (ty : TypeId) :
    ∃ v' w', (Builtin.append_ #[22, 22] ty #[.slice (some ⟨w.heap.size, 0, none⟩) 0 0, .slice A n cap]).run Tryz.prog (w.alloc (.cells #[] 3)) = .ok v' w' ∧ Ints w' v' (ys.take n) ∧ Ext w w' := by
  have hl : (ys.take n).length = n := by rw [List.length_take]; omega
  have hown : (w.alloc (.cells #[] 3)).ownsRow w.heap.size 3 1 (.slice (some ⟨w.heap.size, 0, none⟩) 0 0) 0 [] :=
    ⟨rfl, .inr ⟨w.heap.size, 0, #[], rfl, Nat.le_refl _, Blk.new w 3 #[], Nat.le_refl _, by unfold maxLen; omega, rfl, rfl⟩⟩
  obtain ⟨i0, hi, hz0, hz1, hz2⟩ := info_parts info3
  obtain ⟨v', W', hrun, hown', hg, _⟩ := App.run_append_any (P := Tryz.prog) (w.alloc (.cells #[] 3)) w.heap.size 22 ty 3 i0 (.int .i64 0) 1 8 Tryz.underlying22 hi hz0 hz1 hz2 rfl (by omega) _ 0 [] hown
    w.heap.size A n cap ((ys.take n).map ival) ⟨by rw [List.length_map, hl]; omega, fun h0 => by
      obtain ⟨a, rfl, hlt, hc⟩ := hR (by omega)
      refine ⟨a, rfl, hlt, fun j u hu => ?_⟩
      have hj : j < n := by have := (List.getElem?_eq_some_iff.1 hu).1; rw [List.length_map, hl] at this; exact this
      have hE : Ext w (w.alloc (.cells #[] 3)) := ext_alloc w _
      rw [hE.cell (p := a.add j) (show (a.add j).block < w.heap.size by unfold Addr.add; split <;> exact hlt), hc j (by omega)]
      rw [List.getElem?_map, List.getElem?_take_of_lt hj] at hu
      rw [← hu, List.getElem?_eq_getElem (by omega)]
      simp [ival, List.getD, show j < ys.length by omega]⟩
    (fun u hu => by obtain ⟨x, _, rfl⟩ := List.mem_map.1 hu; rfl) (by unfold maxLen; omega) (by omega) (ext_alloc w _).size
  have hK : Keep (fun b => b = w.heap.size) (w.alloc (.cells #[] 3)) W' := ⟨hg.os, hg.tape, hg.output, hg.size, fun i hi hn => hg.block i hi (fun e => hn (Option.some.inj e))⟩
  refine ⟨v', W', hrun, Ints.of_own (base := w.heap.size) (by rw [hl]; simpa using hown') (by rw [hl]; omega), hK.ext_of (ext_alloc w _) (fun b hb => by rw [hb]; exact Nat.le_refl _)⟩

set_option maxRecDepth 100000 in
set_option maxHeartbeats 2000000 in
theorem hideLays_any (A : Option Addr) (cap : Nat) (x : Int) (ys : List Int) (w : World) (hcap : ys.length ≤ cap) (hmx : cap ≤ 9223372036854775807) (hR : Came w A ys) :
    Calls Tryz.prog 3 #[.int .i64 x, .slice A ys.length cap] w fun e w' => e = .returned (.bool true) ∧ Ext w w' := by
  obtain ⟨n, hn⟩ : ∃ n, min ys.length 25 = n := ⟨_, rfl⟩
  have hnl : n ≤ ys.length := by omega
  have hn25 : n ≤ 25 := by omega
  have hmin : min (ys.length : Int) 25 = (n : Int) := by omega
  obtain ⟨v1, w1, hrun, hI, hE⟩ := copy_append w A cap n ys hnl hn25 hR 22
  obtain ⟨L, hL⟩ : ∃ L, ys.take n = L := ⟨_, rfl⟩
  have hLl : L.length ≤ 25 := by rw [← hL, List.length_take]; omega
  rw [hL] at hI
  have HRun := hide hrun; have HI := hide hI; have HE := hide hE
  obtain ⟨A1, c1, rfl, hc1, _, hrd⟩ := hI
  have HRd := hide hrd
  have HLay := hide (lay_any _ x L w1 HI.out)
  clear hrun hR hL hE hrd
  go_enter Tryz.func3, Tryz.ntmps3
  go_wp2_with (at_builtin; refine wpList_append_go rfl (.tmp 12) (.tmp 17) 22 22 rfl rfl rfl HRun.out ?_)
  refine HLay.out.mono ?_
  rintro e w2 ⟨ul, rfl, hS, E2⟩
  have HS := hide hS
  have HE2 := hide (HE.out.tr E2)
  have HI2 := hide (HI.out.ext E2)
  have HRd2 := hide (HRd.out.ext E2)
  obtain ⟨Al, cl, rfl, _, _, _⟩ := hS
  clear E2 HLay HI HRd HE HRun
  obtain ⟨er, her⟩ : ∃ z, layErr x L = z := ⟨_, rfl⟩
  obtain ⟨m, hm⟩ : ∃ z, (layOut x L).length = z := ⟨_, rfl⟩
  rw [her, hm]
  have HEr := hide her; have HM := hide hm
  clear her hm
  by_cases h24 : 24 < L.length
  · have HEr3 : er = 3 := by rw [← HEr.out]; simp [layErr, h24]
    have HM0 : m = 0 := by rw [← HM.out]; simp [layOut, h24]
    have t1 : decide ((L.length : Int) > 24) = true := by simp; omega
    subst HEr3 HM0
    have l1 : 0 < L.length := by omega
    clear h24
    go_wp2_with fail
    go_loopw [8, 9] (fun s8 s9 wr => s8 = .int .i64 3 ∧ s9 = .int .i64 0 ∧ wr = w2) (fun _ _ _ => 0)
    case atStart => exact ⟨rfl, rfl, rfl⟩
    case round =>
      obtain ⟨rfl, rfl, rfl⟩ := hrel
      have l0 : (0 : Int) < (L.length : Int) := by omega
      go_wp2_with fail
      refine (lives_any _).mono ?_
      rintro e w9 ⟨rfl, E9⟩
      have HE9 := hide (HE2.out.tr E9)
      clear E9
      go_wp2
      go_ret
      exact ⟨rfl, HE9.out⟩
  · have t1 : decide ((L.length : Int) > 24) = false := by simp; omega
    by_cases hbad : BadSide x ∨ L.length = 0
    · have hbad' : BadSide x ∨ L.length = 0 ∨ ∃ y ∈ L, BadSide y := by rcases hbad with h | h; exact .inl h; exact .inr (.inl h)
      have HEr1 : er = 1 := by rw [← HEr.out]; unfold layErr; rw [if_neg h24, if_pos hbad']
      have HM0 : m = 0 := by rw [← HM.out]; unfold layOut; rw [if_neg h24, if_pos hbad']; rfl
      subst HEr1 HM0
      clear hbad' h24
      by_cases h0 : L.length = 0
      · have t2 : ((L.length : Int) == 0) = true := by simp; exact List.eq_nil_of_length_eq_zero h0
        have l1 : ¬ 0 < L.length := by omega
        clear hbad
        go_wp2_with fail
        go_loopw [8, 9] (fun s8 s9 wr => s8 = .int .i64 1 ∧ s9 = .int .i64 0 ∧ wr = w2) (fun _ _ _ => 0)
        case atStart => exact ⟨rfl, rfl, rfl⟩
        case round =>
          obtain ⟨rfl, rfl, rfl⟩ := hrel
          have l0 : ¬ (0 : Int) < (L.length : Int) := by omega
          go_wp2_with fail
          refine (lives_any _).mono ?_
          rintro e w9 ⟨rfl, E9⟩
          have HE9 := hide (HE2.out.tr E9)
          clear E9
          go_wp2
          go_ret
          exact ⟨rfl, HE9.out⟩
      · have t2 : ((L.length : Int) == 0) = false := by simp; exact fun e => h0 (by rw [e]; rfl)
        have l1 : 0 < L.length := by omega
        have hb : BadSide x := by rcases hbad with h | h; exact h; exact absurd h h0
        clear hbad
        by_cases c1 : x < 1
        · have t3 : decide (x < 1) = true := by simpa using c1
          clear hb h0
          go_wp2_with fail
          go_loopw [8, 9] (fun s8 s9 wr => s8 = .int .i64 1 ∧ s9 = .int .i64 0 ∧ wr = w2) (fun _ _ _ => 0)
          case atStart => exact ⟨rfl, rfl, rfl⟩
          case round =>
            obtain ⟨rfl, rfl, rfl⟩ := hrel
            have l0 : (0 : Int) < (L.length : Int) := by omega
            go_wp2_with fail
            refine (lives_any _).mono ?_
            rintro e w9 ⟨rfl, E9⟩
            have HE9 := hide (HE2.out.tr E9)
            clear E9
            go_wp2
            go_ret
            exact ⟨rfl, HE9.out⟩
        · have t3 : decide (x < 1) = false := by simpa using c1
          have t4 : decide (x > 1000) = true := by unfold BadSide at hb; simp; omega
          clear hb h0
          go_wp2_with fail
          go_loopw [8, 9] (fun s8 s9 wr => s8 = .int .i64 1 ∧ s9 = .int .i64 0 ∧ wr = w2) (fun _ _ _ => 0)
          case atStart => exact ⟨rfl, rfl, rfl⟩
          case round =>
            obtain ⟨rfl, rfl, rfl⟩ := hrel
            have l0 : (0 : Int) < (L.length : Int) := by omega
            go_wp2_with fail
            refine (lives_any _).mono ?_
            rintro e w9 ⟨rfl, E9⟩
            have HE9 := hide (HE2.out.tr E9)
            clear E9
            go_wp2
            go_ret
            exact ⟨rfl, HE9.out⟩
    · have hgx : ¬ BadSide x := fun h => hbad (.inl h)
      have h0 : ¬ L.length = 0 := fun h => hbad (.inr h)
      have hgx' := hgx
      unfold BadSide at hgx'
      obtain ⟨W, rfl⟩ : ∃ W : Nat, x = (W : Int) := ⟨x.toNat, by omega⟩
      have t2 : ((L.length : Int) == 0) = false := by simp; exact fun e => h0 (by rw [e]; rfl)
      have t3 : decide ((W : Int) < 1) = false := by simp; omega
      have t4 : decide ((W : Int) > 1000) = false := by simp; omega
      have H24 := hide h24; have HGx := hide hgx; have H0 := hide h0
      have hW : 1 ≤ W ∧ W ≤ 1000 := by omega
      clear hgx' hbad
      have HW := hide hW
      clear hW hgx h24 h0
      go_wp2_with fail
      go_loopw [8, 9] (fun s8 s9 wr => ∃ k : Nat, k ≤ L.length ∧ s9 = .int .i64 (k : Int) ∧ ((s8 = .int .i64 0 ∧ ∀ j, j < k → ¬ BadSide (L.getD j 0)) ∨ (s8 = .int .i64 1 ∧ ∃ y ∈ L, BadSide y)) ∧ wr = w2) (fun _ s9 _ => L.length - (intOf s9).toNat)
      case atStart => exact ⟨0, Nat.zero_le _, rfl, .inl ⟨rfl, fun j hj => by omega⟩, rfl⟩
      case round =>
        obtain ⟨k, hk, rfl, hcase, rfl⟩ := hrel
        rcases hcase with ⟨rfl, hall⟩ | ⟨rfl, hex⟩
        · have HAll := hide hall
          clear hall
          by_cases hlt : k < L.length
          · obtain ⟨b, off, rfl, hbt, hc⟩ := Ints.at HRd2.out hlt
            have a0 := hc k hlt
            obtain ⟨y, hy⟩ : ∃ p, L.getD k 0 = p := ⟨_, rfl⟩
            rw [hy] at a0
            have HY := hide hy
            have hmem : y ∈ L := by rw [← hy]; simp [List.getD, hlt]
            clear hc hy
            by_cases c1 : y < 1
            · have t5 : decide (y < 1) = true := by simpa using c1
              have HEx := hide (⟨y, hmem, .inl c1⟩ : ∃ y ∈ L, BadSide y)
              clear c1 hmem
              go_wp2_with fail
              go_roundw
              case rel => exact ⟨k + 1, by omega, by go_num, .inr ⟨rfl, HEx.out⟩, by first | rfl | trivial⟩
              case measure => simp [intOf]; omega
            · have t5 : decide (y < 1) = false := by simpa using c1
              by_cases c2 : y > 1000
              · have t6 : decide (y > 1000) = true := by simpa using c2
                have HEx := hide (⟨y, hmem, .inr c2⟩ : ∃ y ∈ L, BadSide y)
                clear c1 c2 hmem
                go_wp2_with fail
                go_roundw
                case rel => exact ⟨k + 1, by omega, by go_num, .inr ⟨rfl, HEx.out⟩, by first | rfl | trivial⟩
                case measure => simp [intOf]; omega
              · have t6 : decide (y > 1000) = false := by simpa using c2
                have HG := hide (show ¬ BadSide y by unfold BadSide; omega)
                clear c1 c2 hmem
                go_wp2_with fail
                go_roundw
                case rel =>
                  refine ⟨k + 1, by omega, by go_num, .inl ⟨rfl, fun j hj => ?_⟩, by first | rfl | trivial⟩
                  rcases Nat.lt_or_ge j k with h | h
                  · exact HAll.out j h
                  · obtain rfl : j = k := by omega
                    rw [HY.out]; exact HG.out
                case measure => simp [intOf]; omega
          · obtain rfl : k = L.length := by omega
            have hnb : ¬ ∃ y ∈ L, BadSide y := by
              rintro ⟨y, hy, hb⟩
              obtain ⟨j, hj, rfl⟩ := List.getElem_of_mem hy
              exact HAll.out j hj (by rw [show L.getD j 0 = L[j] by simp [List.getD, hj]]; exact hb)
            have hnbad : ¬ (BadSide (W : Int) ∨ L.length = 0 ∨ ∃ y ∈ L, BadSide y) := by
              rintro (h | h | h); exact HGx.out h; exact H0.out h; exact hnb h
            have HRef := hide (refLay_any _ W L wr HI2.out HW.out (by have := H24.out; omega) hnb)
            have l1 : ¬ (L.length : Int) < (L.length : Int) := by omega
            have hEr : layErr (W : Int) L = match lay W L with | none => 5 | some _ => 0 := by unfold layErr; rw [if_neg H24.out, if_neg hnbad, Int.toNat_natCast]; rfl
            have hOut : layOut (W : Int) L = (lay W L).getD [] := by unfold layOut; rw [if_neg H24.out, if_neg hnbad, Int.toNat_natCast]
            obtain ⟨res, hres⟩ : ∃ r, lay W L = r := ⟨_, rfl⟩
            rw [hres] at hEr hOut HRef
            rw [HEr.out] at hEr
            cases res with
            | none =>
              have HM0 : m = 0 := by rw [← HM.out, hOut]; rfl
              subst hEr HM0
              clear hnb hnbad hOut hres
              go_wp2_with fail
              refine HRef.out.mono ?_
              rintro e w3 ⟨u, rfl, hu, E3⟩
              replace HE2 := hide (HE2.out.tr E3)
              clear hu E3 HRef
              simp only [Option.isSome_none]
              go_wp2_with fail
              refine (lives_any _).mono ?_
              rintro e w9 ⟨rfl, E9⟩
              have HE9 := hide (HE2.out.tr E9)
              clear E9
              go_wp2
              go_ret
              exact ⟨rfl, HE9.out⟩
            | some q =>
              subst hEr
              have HS3 := HS.out
              have hm' := HM.out
              rw [hOut] at HS3 hm'
              subst hm'
              replace HS3 := hide HS3
              clear hnb hnbad hOut hres
              go_wp2_with fail
              refine HRef.out.mono ?_
              rintro e w3 ⟨u, rfl, hu, E3⟩
              have HSame := same_any _ _ _ _ w3 (HS3.out.ext E3) hu
              rw [decide_eq_true rfl] at HSame
              replace HSame := hide HSame
              replace HE2 := hide (HE2.out.tr E3)
              clear hu E3 HRef HS3
              simp only [Option.isSome_some]
              go_wp2_with fail
              refine HSame.out.mono ?_
              rintro e w4 ⟨rfl, E4⟩
              replace HE2 := hide (HE2.out.tr E4)
              clear E4 HSame
              go_wp2_with fail
              refine (lives_any _).mono ?_
              rintro e w9 ⟨rfl, E9⟩
              have HE9 := hide (HE2.out.tr E9)
              clear E9
              go_wp2
              go_ret
              exact ⟨rfl, HE9.out⟩
        · have hbad' : BadSide (W : Int) ∨ L.length = 0 ∨ ∃ y ∈ L, BadSide y := .inr (.inr hex)
          have HEr1 : er = 1 := by rw [← HEr.out]; unfold layErr; rw [if_neg H24.out, if_pos hbad']
          have HM0 : m = 0 := by rw [← HM.out]; unfold layOut; rw [if_neg H24.out, if_pos hbad']; rfl
          subst HEr1 HM0
          clear hbad' hex
          by_cases hlt : k < L.length
          · have l0 : (k : Int) < (L.length : Int) := by omega
            go_wp2_with fail
            refine (lives_any _).mono ?_
            rintro e w9 ⟨rfl, E9⟩
            have HE9 := hide (HE2.out.tr E9)
            clear E9
            go_wp2
            go_ret
            exact ⟨rfl, HE9.out⟩
          · have l0 : ¬ (k : Int) < (L.length : Int) := by omega
            go_wp2_with fail
            refine (lives_any _).mono ?_
            rintro e w9 ⟨rfl, E9⟩
            have HE9 := hide (HE2.out.tr E9)
            clear E9
            go_wp2
            go_ret
            exact ⟨rfl, HE9.out⟩

end Go.Proofs.YtncabodphjkkfaaGreat
