/- A matrix of zeros; a number added to an element. Conditions: the fractions fit into a machine. -/
import Derived.Test.YtncabodphjkkfaaGreatM2
namespace Go.Proofs.YtncabodphjkkfaaGreat
open Go.RowKit Go.Limbs Go.Shelf

theorem info105 : (Tryz.prog.info? 105).map (fun i => (i.zero, i.size, i.bytes)) = some (some (.slice none 0 0), 1, 24) := by kernel_rfl
theorem mk_mat (n : Nat) (hb : n ≤ 1048576) : ∀ W : World, (Instr.makeSlice 152 (.int .i64 (n : Int)) (.int .i64 (n : Int))).run Tryz.prog W =
    .ok (.slice (some ⟨W.heap.size, 0, none⟩) n n) (W.alloc (.cells (List.replicate n (.slice none 0 0)).toArray 105)) := fun W => by
  obtain ⟨i0, hi, hz0, hz1, hz2⟩ := info_parts info105
  rw [run_make_rowN (P := Tryz.prog) 152 105 i0 _ Tryz.underlying152 hi hz0 .i64 .i64 n n (Nat.le_refl _) (by rw [hz2]; omega) (by omega) W, hz1, madeCells_one _ rfl]

/-- The first k rows of a matrix. -/
def MatK (w : World) (gm : Nat) (gs caps : Nat → Nat) (rows : List (List Rat)) (k : Nat) : Prop :=
  ∃ cs : Array Value, Blk w gm 105 cs ∧ cs.size = rows.length ∧ (∀ i, i < k → cs[i]? = some (.slice (some ⟨gs i, 0, none⟩) (rows.getD i []).length (caps i)) ∧ RRow w (gs i) (caps i) (rows.getD i [])) ∧
    ∀ i j, i < k → j < k → gs i = gs j → i = j
theorem MatK.full {w : World} {gm : Nat} {gs caps : Nat → Nat} {rows : List (List Rat)} (h : MatK w gm gs caps rows rows.length) : IsMat w gm gs caps rows := h
theorem MatK.ext {w w' : World} {gm k : Nat} {gs caps : Nat → Nat} {rows : List (List Rat)} (h : MatK w gm gs caps rows k) (E : Ext w w') : MatK w' gm gs caps rows k := by
  obtain ⟨cs, h1, h2, h3, h4⟩ := h
  exact ⟨cs, h1.ext E, h2, fun i hi => ⟨(h3 i hi).1, (h3 i hi).2.ext E⟩, h4⟩
theorem MatK.blk {w : World} {gm k : Nat} {gs caps : Nat → Nat} {rows : List (List Rat)} (h : MatK w gm gs caps rows k) : ∃ cs : Array Value, Blk w gm 105 cs ∧ cs.size = rows.length := by
  obtain ⟨cs, h1, h2, _⟩ := h; exact ⟨cs, h1, h2⟩
/-- One row more. -/
theorem MatK.snoc {w : World} {gm k : Nat} {gs caps : Nat → Nat} {rows : List (List Rat)} (h : MatK w gm gs caps rows k) (hk : k < rows.length) {g c : Nat} (hr : RRow w g c (rows.getD k [])) (hne : ∀ i, i < k → gs i ≠ g) :
    MatK (w.setCell ⟨gm, k, none⟩ (.slice (some ⟨g, 0, none⟩) (rows.getD k []).length c)) gm (fun i => if i = k then g else gs i) (fun i => if i = k then c else caps i) rows (k + 1) := by
  obtain ⟨cs, h1, h2, h3, h4⟩ := h
  have hK : Keep (fun b => b = gm) w (w.setCell ⟨gm, k, none⟩ (.slice (some ⟨g, 0, none⟩) (rows.getD k []).length c)) := (Keep.refl (fun b => b = gm) w).setCell (p := ⟨gm, k, none⟩) (.inl rfl) _
  have hN : NoDigits w (fun b => b = gm) := fun b hb => ⟨105, by rw [hb]; exact h1.ty, by decide⟩
  refine ⟨_, h1.set_ k _, by simp [h2], fun i hi => ?_, fun i j hi hj => ?_⟩
  · by_cases e : i = k
    · subst e
      simp only [if_true]
      rw [Array.getElem?_setIfInBounds_self, if_pos (by omega)]
      exact ⟨rfl, hr.keep hK (hr.ty.ne h1.ty (by decide)) hN⟩
    · simp only [if_neg e]
      rw [Array.getElem?_setIfInBounds_ne (fun h => e h.symm)]
      have := h3 i (by omega)
      exact ⟨this.1, this.2.keep hK (this.2.ty.ne h1.ty (by decide)) hN⟩
  · by_cases e : i = k <;> by_cases e' : j = k
    · intro _; omega
    · simp only [if_pos e, if_neg e']; exact fun h => absurd h.symm (hne j (by omega))
    · simp only [if_neg e, if_pos e']; exact fun h => absurd h (hne i (by omega))
    · simp only [if_neg e, if_neg e']; exact h4 i j (by omega) (by omega)

theorem RRow.of_rep {w : World} {g n : Nat} {r : R4} {q : Rat} (h : Blk w g 113 (repCells r n n)) (hr : IsRat w r.val q) (hn : n ≤ 1048576) : RRow w g n (List.replicate n q) := by
  refine ⟨_, List.replicate n r, h, repCells_size r (Nat.le_refl _), by simp, by unfold maxLen; omega, by simp, ?_, fun j hj => ?_⟩
  · rw [List.length_replicate]
    show List.take (n * 4) ((rep4 r n n).flatMap r4cells) = _
    rw [rep4_full, List.take_of_length_le (by rw [r4_length, List.length_replicate]; exact Nat.le_refl _)]
  · simp only [List.length_replicate] at hj
    simp only [List.getD, List.getElem?_replicate, if_pos hj, Option.getD_some]
    exact hr

def zeros (n : Nat) : List (List Rat) := List.replicate n (List.replicate n 0)
theorem zeros_get {n k : Nat} (h : k < n) : (zeros n).getD k [] = List.replicate n 0 := by simp [zeros, List.getD, h]

set_option maxRecDepth 100000 in
set_option maxHeartbeats 2000000 in
theorem zero_any (n : Nat) (w : World) (hn : 1 ≤ n) (hn2 : n ≤ 1048576) :
    Calls Tryz.prog 105 #[.int .i64 (n : Int), .int .i64 (n : Int)] w fun e w' => ∃ gm gs caps, e = .returned (.slice (some ⟨gm, 0, none⟩) n n) ∧ IsMat w' gm gs caps (zeros n) ∧ (∀ b, MatB gm gs n b → w.heap.size ≤ b) ∧ (∀ i, i < n → caps i = n) ∧ Ext w w' := by
  have hmk := mk_mat n hn2
  go_enter Tryz.func105, Tryz.ntmps105
  go_wp2_with fail
  go_loopw [11] (fun i wr => ∃ (k : Nat) (gs caps : Nat → Nat), k ≤ n ∧ i = .int .i64 (k : Int) ∧ MatK wr w.heap.size gs caps (zeros n) k ∧ (∀ i, i < k → w.heap.size ≤ gs i ∧ gs i < wr.heap.size ∧ caps i = n) ∧ Ext w wr) (fun i _ => n - (intOf i).toNat)
  case atStart => exact ⟨0, fun _ => 0, fun _ => 0, Nat.zero_le _, rfl, ⟨_, Blk.new _ _ _, by simp [zeros], fun i hi => by omega, fun i j hi => by omega⟩, fun i hi => by omega, (Below.refl _ _).alloc (Nat.le_refl _) _⟩
  case round =>
    obtain ⟨k, gs, caps, hk, rfl, hm, hgs, hE⟩ := hrel
    have HM := hide hm; have HG := hide hgs; have HE := hide hE
    clear hm hgs hE
    by_cases hlt : k < n
    · go_wp2_with fail
      refine (whole_any 0 wr (by decide) (by decide)).mono ?_
      rintro e w1 ⟨v, rfl, hv, E1⟩
      obtain ⟨⟨r0, r1, r2, r3⟩, rfl⟩ := hv.r4
      have hones := hv.ones
      have o0 := st_any (hones r0 (by simp [r4cells])); have o1 := st_any (hones r1 (by simp [r4cells])); have o2 := st_any (hones r2 (by simp [r4cells])); have o3 := st_any (hones r3 (by simp [r4cells]))
      have HV := hide hv; have HO := hide hones
      clear hv hones
      have HM1 := hide (HM.out.ext E1)
      have HE1 := hide (HE.out.tr E1)
      unfold R4.val
      go_wp2_with fail
      have hc4 : Cell4 (w1.alloc (.cells #[r0, r1, r2, r3] 113)) w1.heap.size 0 (r0, r1, r2, r3) :=
        ⟨(Blk.new _ _ _).cell 0, (Blk.new _ _ _).cell 1, (Blk.new _ _ _).cell 2, (Blk.new _ _ _).cell 3⟩
      have hEa : Ext w1 (w1.alloc (.cells #[r0, r1, r2, r3] 113)) := (Below.refl _ _).alloc (Nat.le_refl _) _
      have hlt1 : w1.heap.size < (w1.alloc (.cells #[r0, r1, r2, r3] 113)).heap.size := by simp
      generalize w1.alloc (.cells #[r0, r1, r2, r3] 113) = w2 at hc4 hEa hlt1 ⊢
      refine (repeat_any w1.heap.size 0 1 n (r0, r1, r2, r3) w2 hc4 HO.out hlt1 hn hn2).mono ?_
      rintro e w3 ⟨g, rfl, hg, hB, E3⟩
      have hM3 := (HM1.out.ext hEa).ext E3
      have hV3 := (HV.out.ext hEa).ext E3
      have hE3 := (HE1.out.tr hEa).tr E3
      have hrow : RRow w3 g n ((zeros n).getD k []) := by rw [zeros_get hlt]; exact RRow.of_rep hB hV3 hn2
      have hne : ∀ i, i < k → gs i ≠ g := fun i hi => by have := (HG.out i hi).2.1; have := E1.size; have := hEa.size; omega
      have hsn := hM3.snoc (by simp [zeros]; exact hlt) hrow hne
      have hl : ((zeros n).getD k []).length = n := by rw [zeros_get hlt]; simp
      rw [hl] at hsn
      obtain ⟨cs, hcB, hcs⟩ := hM3.blk
      have hck : k < cs.size := by rw [hcs]; simp [zeros]; exact hlt
      have c0 : w3.cell? ⟨w.heap.size, k, none⟩ = some cs[k] := by rw [hcB.cell]; simp [hck]
      have f0 := hcB.frozen k
      have hE4 : Ext w (w3.setCell ⟨w.heap.size, k, none⟩ (.slice (some ⟨g, 0, none⟩) n n)) := hE3.setCell (p := ⟨w.heap.size, k, none⟩) (Nat.le_refl _) _
      have hz : w3.heap.size ≤ (w3.setCell ⟨w.heap.size, k, none⟩ (.slice (some ⟨g, 0, none⟩) n n)).heap.size := by rw [World.setCell_size]; exact Nat.le_refl _
      have hgl : g < w3.heap.size := hB.lt
      have hsz : wr.heap.size ≤ w3.heap.size := by have := E1.size; have := hEa.size; have := E3.size; omega
      have hwz := HE.out.size
      have hwr := E1.size
      have hwe := hEa.size
      have HSn := hide hsn; have HE4 := hide hE4
      clear hM3 hV3 hE3 hrow hsn hl hcB hcs hE4 hc4 hne hB
      go_wp2_with fail
      go_roundw
      case rel =>
        refine ⟨k + 1, _, _, by omega, by go_num, HSn.out, fun i hi => ?_, HE4.out⟩
        by_cases e : i = k
        · simp only [if_pos e]; exact ⟨by omega, by omega, trivial⟩
        · simp only [if_neg e]; have := HG.out i (by omega); exact ⟨this.1, by omega, this.2.2⟩
      case measure => simp [intOf]; omega
    · obtain rfl : k = n := by omega
      go_wp2
      go_ret
      exact ⟨_, gs, caps, rfl, by have := HM.out; unfold MatK at this; unfold IsMat; rw [show (zeros k).length = k by simp [zeros]] at *; exact this, fun b hb => by
        rcases hb with rfl | ⟨i, hi, rfl⟩
        · exact Nat.le_refl _
        · exact (HG.out i hi).1, fun i hi => (HG.out i hi).2.2, HE.out⟩

end Go.Proofs.YtncabodphjkkfaaGreat
