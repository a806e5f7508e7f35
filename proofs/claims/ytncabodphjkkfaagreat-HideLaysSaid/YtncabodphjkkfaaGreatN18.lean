/- The texts of a row of fractions. Conditions: its parts are not longer than any machine's memory. -/
import Derived.Test.YtncabodphjkkfaaGreatN16
import Derived.Test.YtncabodphjkkfaaGreatM1
import Derived.Test.YtncabodphjkkfaaGreatH4
namespace Go.Proofs.YtncabodphjkkfaaGreat
open Go.RowKit Go.Limbs Go.Dec Go.Shelf

/-- v is a slice of the strings ls. -/
def Strs (w : World) (v : Value) (ls : List (List UInt8)) : Prop :=
  ∃ A cap, v = .slice A ls.length cap ∧ ls.length ≤ cap ∧ ls.length ≤ 1152921504606846976 ∧ Rd w 52 A (ls.map bstr)
theorem Strs.ext {w w' : World} {v : Value} {ls : List (List UInt8)} (h : Strs w v ls) (E : Ext w w') : Strs w' v ls := by
  obtain ⟨A, cap, hv, h1, h2, h3⟩ := h
  exact ⟨A, cap, hv, h1, h2, h3.ext E⟩
theorem Strs.of_own {w : World} {base : Nat} {v : Value} {l : List (List UInt8)} (h : w.ownsRow base 52 1 v l.length (l.map bstr)) (hl : l.length ≤ 1152921504606846976) : Strs w v l := by
  obtain ⟨A, cap, rfl, hc, _⟩ := own_slice h
  exact ⟨A, cap, rfl, hc, hl, Rd.of_own h⟩
theorem info52 : (Tryz.prog.info? 52).map (fun i => (i.zero, i.size, i.bytes)) = some (some (.string ⟨#[]⟩), 1, 16) := by kernel_rfl

def numsErr (qs : List Rat) : Int := if ∃ q ∈ qs, numErr q ≠ 0 then 4 else 0
def numsOut (qs : List Rat) : List (List UInt8) := if ∃ q ∈ qs, numErr q ≠ 0 then [] else qs.map numText
theorem numErr_or (q : Rat) : numErr q = 0 ∨ numErr q = 4 := by unfold numErr; repeat (first | split | exact .inl rfl | exact .inr rfl)

set_option maxRecDepth 100000 in
set_option maxHeartbeats 2000000 in
theorem nums_any (v : Value) (qs : List Rat) (w : World) (h : Rats w v qs) (hl : ∀ q ∈ qs, RatLen q 4398046511104) (hn : qs.length ≤ 1048576) :
    Calls Tryz.prog 70 #[v] w fun e w' => ∃ u, e = .returned (.tuple #[u, .int .i64 (numsErr qs)]) ∧ Strs w' u (numsOut qs) ∧ Ext w w' := by
  obtain ⟨A, cap, rs, rfl, hcap, _, hlen, hrd, hq⟩ := h
  have HRd := hide hrd; have HQ := hide hq; have HLen := hide hlen; have HL := hide hl
  clear hrd hq hlen hl
  go_enter Tryz.func70, Tryz.ntmps70
  go_wp2_with fail
  go_loopw [4, 11] (fun o i wr => ∃ (k : Nat), k ≤ qs.length ∧ i = .int .i64 (k : Int) ∧ wr.ownsRow w.heap.size 52 1 o k ((qs.take k).map fun q => bstr (numText q)) ∧ Ext w wr ∧ ∀ q ∈ qs.take k, numErr q = 0) (fun _ i _ => qs.length - (intOf i).toNat)
  case atStart => exact ⟨0, Nat.zero_le _, rfl, World.ownsRow_nil _ _ _ _, Ext.rfl' _, by simp⟩
  case round =>
    obtain ⟨k, hk, rfl, hown, hE, hall⟩ := hrel
    have HOwn := hide hown; have HE := hide hE; have HAll := hide hall
    clear hown hE hall
    by_cases hlt : k < qs.length
    · obtain ⟨b, off, rfl, hb, hc⟩ := Rats.at HRd.out HLen.out HQ.out hlt
      obtain ⟨⟨r0, r1, r2, r3⟩, ⟨a0, a1, a2, a3⟩, hr⟩ := hc k hlt
      obtain ⟨q, hqk⟩ : ∃ q, qs.getD k 0 = q := ⟨_, rfl⟩
      rw [hqk] at hr
      have hqm : q ∈ qs := by rw [← hqk, List.getD, List.getElem?_eq_getElem hlt]; exact List.getElem_mem hlt
      have htk : qs.take (k + 1) = qs.take k ++ [q] := by rw [List.take_succ_eq_append_getElem hlt, ← hqk, List.getD, List.getElem?_eq_getElem hlt]; rfl
      have b0 : wr.cell? ⟨b, off + k * 4, none⟩ = some r0 := (HE.out.cell (p := ⟨b, off + k * 4, none⟩) hb.lt).trans a0
      have b1 : wr.cell? ⟨b, off + k * 4 + 1, none⟩ = some r1 := (HE.out.cell (p := ⟨b, off + k * 4 + 1, none⟩) hb.lt).trans a1
      have b2 : wr.cell? ⟨b, off + k * 4 + 2, none⟩ = some r2 := (HE.out.cell (p := ⟨b, off + k * 4 + 2, none⟩) hb.lt).trans a2
      have b3 : wr.cell? ⟨b, off + k * 4 + 3, none⟩ = some r3 := (HE.out.cell (p := ⟨b, off + k * 4 + 3, none⟩) hb.lt).trans a3
      have hones := hr.ones
      have o0 := st_any (hones r0 (by simp [r4cells])); have o1 := st_any (hones r1 (by simp [r4cells])); have o2 := st_any (hones r2 (by simp [r4cells])); have o3 := st_any (hones r3 (by simp [r4cells]))
      have HR := hide (hr.ext HE.out)
      have HQM := hide hqm; have HTk := hide htk
      clear hc hqk hr a0 a1 a2 a3 hqm htk hones
      go_wp2_with fail
      have hEw : Ext wr (wr.alloc (.cells #[r0, r1, r2, r3] 113)) := (Below.refl _ _).alloc (Nat.le_refl _) _
      have hBw : Blk (wr.alloc (.cells #[r0, r1, r2, r3] 113)) wr.heap.size 113 #[r0, r1, r2, r3] := Blk.new _ _ _
      generalize wr.alloc (.cells #[r0, r1, r2, r3] 113) = W0 at hEw hBw ⊢
      refine (num_any _ q W0 (HR.out.ext hEw) (HL.out q HQM.out)).mono ?_
      rintro e w1 ⟨rfl, E1⟩
      have hE1 := (HE.out.tr hEw).tr E1
      have HOwn1 := hide (own_ext0 HOwn.out (hEw.tr E1))
      rcases numErr_or q with h0 | h0
      · rw [h0]
        have e2 : numOut q = numText q := by unfold numOut; rw [if_pos h0]
        rw [e2]
        have H0 := hide h0
        clear e2 h0 hEw hBw E1
        obtain ⟨i0, hi, hz0, hz1, hz2⟩ := info_parts info52
        have hEa : Ext w1 (w1.alloc (.cells #[bstr (numText q)] 52)) := (Below.refl _ _).alloc (Nat.le_refl _) _
        have HOwn2 := hide (own_ext0 HOwn1.out hEa)
        have hsrc : Rd (w1.alloc (.cells #[bstr (numText q)] 52)) 52 (some ⟨w1.heap.size, 0, none⟩) [bstr (numText q)] := Rd.of_blk (Blk.new _ _ _) 0 _ (fun j hj => by
          have : j = 0 := by simpa using hj
          subst this
          simp)
        have HRs := hide (hsrc.reads 1 1 rfl (by omega))
        have hsw : w.heap.size ≤ (w1.alloc (.cells #[bstr (numText q)] 52)).heap.size := Nat.le_trans hE1.size hEa.size
        obtain ⟨y, hy⟩ : ∃ y : ByteArray, bstr (numText q) = .string y := ⟨_, rfl⟩
        rw [hy] at hEa HOwn2 HRs hsw ⊢
        have HX := hide hy
        clear hsrc hy
        go_wp2_with (at_builtin; refine App.wpList_append_any _ rfl (.tmp 23) (.tmp 25) 49 rfl w.heap.size 52 i0 _ 1 16 Tryz.underlying49 hi hz0 hz1 hz2 rfl (by omega) u4 k ((qs.take k).map fun q => bstr (numText q)) rfl HOwn2.out _ _ 1 1 _ rfl HRs.out (by intro u hu; simp at hu; subst hu; rfl) (by simp only [maxLen]; omega) (by omega) hsw ?_; intro v1 w2 hown1 hg1 hat1)
        have hE2 : Ext w w2 := below_grown' (hE1.tr hEa) hg1 (fun g hg => (HOwn2.out.lt g hg).1) hsw
        have HOwn3 := hide hown1
        clear hown1 hg1 hat1
        go_wp2_with fail
        go_roundw
        case rel =>
          refine ⟨k + 1, by omega, by go_num, ?_, hE2, ?_⟩
          · rw [HTk.out, List.map_append]
            have h := HOwn3.out
            rw [← HX.out] at h
            exact h
          · intro p hp
            rw [HTk.out] at hp
            rcases List.mem_append.1 hp with hp | hp
            · exact HAll.out p hp
            · rw [List.mem_singleton.1 hp]; exact H0.out
        case measure => simp [intOf]; omega
      · rw [h0]
        have h4 : ∃ q ∈ qs, numErr q ≠ 0 := ⟨q, HQM.out, by rw [h0]; decide⟩
        have e1 : numsErr qs = 4 := by unfold numsErr; rw [if_pos h4]
        have e2 : numsOut qs = [] := by unfold numsOut; rw [if_pos h4]
        have He1 := hide e1; have He2 := hide e2
        clear h4 e1 e2 h0
        go_wp2
        go_ret2
        exact ⟨_, by rw [He1.out]; rfl, by rw [He2.out]; exact ⟨none, 0, rfl, Nat.le_refl _, by simp, Rd.nil⟩, hE1⟩
    · obtain rfl : k = qs.length := by omega
      have h4 : ¬ ∃ q ∈ qs, numErr q ≠ 0 := by
        rintro ⟨q, hq, hne⟩
        exact hne (HAll.out q (by rw [List.take_length]; exact hq))
      have He1 := hide (show numsErr qs = 0 by unfold numsErr; rw [if_neg h4])
      have He2 := hide (show numsOut qs = qs.map numText by unfold numsOut; rw [if_neg h4])
      clear h4
      go_wp2
      go_ret2
      refine ⟨_, by rw [He1.out]; rfl, ?_, HE.out⟩
      rw [He2.out]
      have h := HOwn.out
      rw [List.take_length] at h
      refine Strs.of_own (base := w.heap.size) ?_ (by rw [List.length_map]; omega)
      rw [List.length_map, List.map_map]
      exact h

end Go.Proofs.YtncabodphjkkfaaGreat
