/- The solution of equations, in plain Lean, and its row in memory. Conditions: none. -/
import Derived.Test.YtncabodphjkkfaaGreatM5
import Derived.ArgAppend
namespace Go.Proofs.YtncabodphjkkfaaGreat
open Go.RowKit Go.Limbs Go.Shelf

/-- The rows up to i, each with its right side. -/
def augPart (rows : List (List Rat)) (b : List Rat) (i : Nat) : List (List Rat) := rows.mapIdx fun k r => if k < i then r ++ [b.getD k 0] else r
theorem augPart_length (rows : List (List Rat)) (b : List Rat) (i : Nat) : (augPart rows b i).length = rows.length := by simp [augPart]
theorem augPart_row (rows : List (List Rat)) (b : List Rat) (i k : Nat) (hk : k < rows.length) : (augPart rows b i).getD k [] = if k < i then rows.getD k [] ++ [b.getD k 0] else rows.getD k [] := by
  simp [augPart, List.getD, hk]
theorem augPart_zero (rows : List (List Rat)) (b : List Rat) : augPart rows b 0 = rows := by
  apply List.ext_getElem?
  intro k
  rw [augPart, List.getElem?_mapIdx]
  cases rows[k]? with
  | none => rfl
  | some x => simp only [Option.map_some]; rw [if_neg (by omega)]
theorem augPart_succ (rows : List (List Rat)) (b : List Rat) (i : Nat) (hi : i < rows.length) : (augPart rows b i).set i (rows.getD i [] ++ [b.getD i 0]) = augPart rows b (i + 1) := by
  apply List.ext_getElem?
  intro k
  rw [List.getElem?_set, augPart, augPart, List.getElem?_mapIdx, List.getElem?_mapIdx, List.length_mapIdx]
  by_cases e : i = k
  · subst e
    rw [if_pos rfl, if_pos hi, List.getElem?_eq_getElem hi, Option.map_some, if_pos (by omega)]
    simp [List.getD, hi]
  · rw [if_neg e]
    cases rows[k]? with
    | none => rfl
    | some x =>
      simp only [Option.map_some]
      by_cases h : k < i
      · rw [if_pos h, if_pos (by omega)]
      · rw [if_neg h, if_neg (by omega)]

def backS (T : List (List Rat)) (N i : Nat) (xs : List Rat) : Nat → Rat
  | 0 => mget T i N
  | m + 1 => backS T N i xs m - mget T i (i + 1 + m) * xs.getD (i + 1 + m) 0
def backX (T : List (List Rat)) (N : Nat) : Nat → List Rat
  | 0 => List.replicate N 0
  | k + 1 => (backX T N k).set (N - 1 - k) (backS T N (N - 1 - k) (backX T N k) k / mget T (N - 1 - k) (N - 1 - k))
theorem backX_length (T : List (List Rat)) (N k : Nat) : (backX T N k).length = N := by
  induction k with
  | zero => simp [backX]
  | succ k ih => simp [backX, ih]
/-- The solution of the equations. -/
def solveR (rows : List (List Rat)) (b : List Rat) (N : Nat) : List Rat := backX (elimTo (augPart rows b N) N) N N

/-- What is needed of sizes, and of the pivots, to go back. -/
structure BackOk (T : List (List Rat)) (N L : Nat) : Prop where
  piv : ∀ i, i < N → mget T i i ≠ 0
  el : ∀ i, i < N → ∀ j, j < N → RatLen (mget T i j) L
  sum : ∀ k, k < N → ∀ m, m ≤ k → RatLen (backS T N (N - 1 - k) (backX T N k) m) L
  xs : ∀ k, k < N → ∀ m, m < k → RatLen ((backX T N k).getD (N - 1 - k + 1 + m) 0) L
  prod : ∀ k, k < N → ∀ m, m < k → RatLen (mget T (N - 1 - k) (N - 1 - k + 1 + m) * (backX T N k).getD (N - 1 - k + 1 + m) 0) L

/-- A row whose last k places hold the fractions xs. -/
def XRow (w : World) (g N k : Nat) (xs : List Rat) : Prop :=
  ∃ cs : Array Value, Blk w g 113 cs ∧ cs.size = N * 4 ∧ ∀ j, N - k ≤ j → j < N → ∃ r : R4, (∀ t, t < 4 → cs[j * 4 + t]? = (r4cells r)[t]?) ∧ IsRat w r.val (xs.getD j 0)
theorem XRow.start {w : World} {g N : Nat} {cs : Array Value} (h : Blk w g 113 cs) (hs : cs.size = N * 4) (xs : List Rat) : XRow w g N 0 xs := ⟨cs, h, hs, fun j h1 h2 => by omega⟩
theorem XRow.keep {S : Nat → Prop} {w w' : World} {g N k : Nat} {xs : List Rat} (h : XRow w g N k xs) (kp : Keep S w w') (hn : ¬ S g) (hs : NoDigits w S) : XRow w' g N k xs := by
  obtain ⟨cs, hB, h1, h2⟩ := h
  refine ⟨cs, hB.keep kp hn, h1, fun j a b => ?_⟩
  obtain ⟨r, hr, hq⟩ := h2 j a b
  exact ⟨r, hr, hq.keep kp hs⟩
theorem XRow.ext {w w' : World} {g N k : Nat} {xs : List Rat} (h : XRow w g N k xs) (E : Ext w w') : XRow w' g N k xs := h.keep (S := fun _ => False) (Keep.ext E) id (noDigits_none w)
theorem XRow.ty {w : World} {g N k : Nat} {xs : List Rat} (h : XRow w g N k xs) : TyBlk w g 113 := by
  obtain ⟨cs, hB, _⟩ := h; exact hB.ty
theorem XRow.frozen {w : World} {g N k : Nat} {xs : List Rat} (h : XRow w g N k xs) (i : Nat) : w.frozen? ⟨g, i, none⟩ = false := by
  obtain ⟨cs, hB, _⟩ := h; exact hB.frozen i
theorem XRow.at {w : World} {g N k : Nat} {xs : List Rat} (h : XRow w g N k xs) {j : Nat} (h1 : N - k ≤ j) (h2 : j < N) : ∃ r : R4, Cell4 w g (j * 4) r ∧ IsRat w r.val (xs.getD j 0) := by
  obtain ⟨cs, hB, hs, hc⟩ := h
  obtain ⟨r, hr, hq⟩ := hc j h1 h2
  refine ⟨r, ⟨?_, ?_, ?_, ?_⟩, hq⟩
  · rw [hB.cell]; exact hr 0 (by omega)
  · rw [hB.cell]; exact hr 1 (by omega)
  · rw [hB.cell]; exact hr 2 (by omega)
  · rw [hB.cell]; exact hr 3 (by omega)
/-- The old cells at the place that is written next. -/
theorem XRow.old {w : World} {g N k : Nat} {xs : List Rat} (h : XRow w g N k xs) {j : Nat} (h2 : j < N) : ∃ r : R4, Cell4 w g (j * 4) r := by
  obtain ⟨cs, hB, hs, hc⟩ := h
  have c : ∀ t, t < 4 → cs[j * 4 + t]? = some (cs.getD (j * 4 + t) undef) := fun t ht => by simp [show j * 4 + t < cs.size by omega]
  exact ⟨(cs.getD (j * 4 + 0) undef, cs.getD (j * 4 + 1) undef, cs.getD (j * 4 + 2) undef, cs.getD (j * 4 + 3) undef),
    (hB.cell _).trans (c 0 (by omega)), (hB.cell _).trans (c 1 (by omega)), (hB.cell _).trans (c 2 (by omega)), (hB.cell _).trans (c 3 (by omega))⟩
theorem XRow.put {w : World} {g N k : Nat} {xs : List Rat} (h : XRow w g N k xs) (hk : k < N) (hx : xs.length = N) {r : R4} {q : Rat} (hr : IsRat w r.val q) : XRow (rput4 w g ((N - 1 - k) * 4) r) g N (k + 1) (xs.set (N - 1 - k) q) := by
  have hty := h.ty
  obtain ⟨cs, hB, hs, hc⟩ := h
  have hK : Keep (fun b => b = g) w (rput4 w g ((N - 1 - k) * 4) r) := Keep.rput4 (S := fun b => b = g) (Keep.refl _ w) (.inl rfl) r
  have hN : NoDigits w (fun b => b = g) := fun b hb => ⟨113, by rw [hb]; exact hty, by decide⟩
  refine ⟨_, hB.rput4 ((N - 1 - k) * 4) r, by simp [hs], fun j h1 h2 => ?_⟩
  by_cases e : j = N - 1 - k
  · subst e
    refine ⟨r, fun t ht => ?_, by simp only [List.getD, List.getElem?_set_self (show N - 1 - k < xs.length by omega), Option.getD_some]; exact hr.keep hK hN⟩
    have : t = 0 ∨ t = 1 ∨ t = 2 ∨ t = 3 := by omega
    rcases this with rfl | rfl | rfl | rfl <;> simp [r4cells, Array.getElem?_setIfInBounds, hs] <;> omega
  · obtain ⟨r', hr', hq'⟩ := hc j (by omega) h2
    refine ⟨r', fun t ht => ?_, by simp only [List.getD, List.getElem?_set_ne (Ne.symm e)]; exact hq'.keep hK hN⟩
    rw [Array.getElem?_setIfInBounds_ne (by omega), Array.getElem?_setIfInBounds_ne (by omega), Array.getElem?_setIfInBounds_ne (by omega), Array.getElem?_setIfInBounds_ne (by omega)]
    exact hr' t ht
theorem range_map_getD {α : Type} (f : Nat → α) (N j : Nat) (d : α) (h : j < N) : ((List.range N).map f).getD j d = f j := by simp [List.getD, h]
def c4 (cs : Array Value) (j : Nat) : R4 := (cs.getD (j * 4 + 0) undef, cs.getD (j * 4 + 1) undef, cs.getD (j * 4 + 2) undef, cs.getD (j * 4 + 3) undef)
theorem c4_get (cs : Array Value) (j t : Nat) (ht : t < 4) (h : j * 4 + 3 < cs.size) : (r4cells (c4 cs j))[t]? = cs[j * 4 + t]? := by
  have e : cs[j * 4 + t]? = some (cs.getD (j * 4 + t) undef) := by simp [show j * 4 + t < cs.size by omega]
  rw [e]
  have : t = 0 ∨ t = 1 ∨ t = 2 ∨ t = 3 := by omega
  rcases this with h | h | h | h <;> subst h <;> rfl
theorem r4_ext {a b : R4} (h : ∀ t, t < 4 → (r4cells a)[t]? = (r4cells b)[t]?) : a = b := by
  obtain ⟨a0, a1, a2, a3⟩ := a
  obtain ⟨b0, b1, b2, b3⟩ := b
  have h0 := h 0 (by omega); have h1 := h 1 (by omega); have h2 := h 2 (by omega); have h3 := h 3 (by omega)
  simp [r4cells] at h0 h1 h2 h3
  rw [h0, h1, h2, h3]
theorem XRow.full {w : World} {g N : Nat} {xs : List Rat} (h : XRow w g N N xs) (hx : xs.length = N) (hN : N ≤ 1048576) : RRow w g N xs := by
  obtain ⟨cs, hB, hs, hc⟩ := h
  refine ⟨cs, (List.range N).map (c4 cs), hB, hs, by omega, by unfold maxLen; omega, by simp [hx], ?_, fun j hj => ?_⟩
  · apply List.ext_getElem?
    intro i
    by_cases hi : i < N * 4
    · obtain ⟨j, t, ht, rfl⟩ : ∃ j t, t < 4 ∧ i = j * 4 + t := ⟨i / 4, i % 4, by omega, by omega⟩
      have hj : j < N := by omega
      rw [List.getElem?_take_of_lt (by rw [hx]; exact hi), r4_get _ _ _ ht (by rw [List.length_map, List.length_range]; exact hj), range_map_getD _ _ _ _ hj, c4_get cs j t ht (by omega)]
      simp
    · rw [List.getElem?_eq_none (by simp; omega), List.getElem?_eq_none (by rw [r4_length]; simp; omega)]
  · obtain ⟨r, hr, hq⟩ := hc j (by omega) (by omega)
    have hj' : j < N := by omega
    rw [range_map_getD _ _ _ _ hj', show c4 cs j = r from r4_ext fun t ht => by rw [c4_get cs j t ht (by omega), hr t ht]]
    exact hq

/-- A fraction appended to a row that is full. -/
theorem RRow.grow {W : World} {g c : Nat} {qs : List Rat} (h : RRow W g c qs) (hc : c = qs.length) {b o cp : Nat} {r : R4} {q : Rat} (hr : Cell4 W b o r) (hq : IsRat W r.val q) (hl : qs.length ≤ 1048576) (ty : TypeId) :
    ∃ v' W' g' c', (Builtin.append_ #[105, 105] ty #[.slice (some ⟨g, 0, none⟩) qs.length c, .slice (some ⟨b, o, none⟩) 1 cp]).run Tryz.prog W = .ok v' W' ∧ v' = .slice (some ⟨g', 0, none⟩) (qs.length + 1) c' ∧ W.heap.size ≤ g' ∧ RRow W' g' c' (qs ++ [q]) ∧ Ext W W' := by
  obtain ⟨rs, h1, h2, h3⟩ := h.rd
  obtain ⟨i0, hi, hz0, hz1, hz2⟩ := info_parts info113
  have hlen := r4_length rs
  obtain ⟨v', W', hrun, hown, hg⟩ := run_append_arg_grows (P := Tryz.prog) W 105 ty 113 i0 _ 4 64 Tryz.underlying105 hi hz0 hz1 hz2 rfl (by omega) ⟨g, 0, none⟩ qs.length c (rs.flatMap r4cells) (by rw [hlen, h1])
    (fun j u hu => by
      have hj := (List.getElem?_eq_some_iff.1 hu).1
      obtain ⟨b', off', hA, hb, hcc⟩ := h2 (fun e => by rw [e] at hj; simp at hj)
      obtain ⟨e1, e2⟩ : g = b' ∧ 0 = off' := by injection hA with hA; injection hA with e1 e2; exact ⟨e1, e2⟩
      rw [e1, e2, addr_add, hcc j hj, List.getD, hu]; rfl)
    ⟨b, o, none⟩ 1 cp (r4cells r) rfl
    (fun j u hu => by
      have hj : j < 4 := (List.getElem?_eq_some_iff.1 hu).1
      rw [addr_add]
      have : j = 0 ∨ j = 1 ∨ j = 2 ∨ j = 3 := by omega
      rcases this with rfl | rfl | rfl | rfl
      · rw [← show some r.1 = some u from hu]; exact hr.1
      · rw [← show some r.2.1 = some u from hu]; exact hr.2.1
      · rw [← show some r.2.2.1 = some u from hu]; exact hr.2.2.1
      · rw [← show some r.2.2.2 = some u from hu]; exact hr.2.2.2)
    (by omega) (by unfold maxLen; omega) (by omega)
  have E : Ext W W' := ⟨hg.os, hg.tape, hg.output, hg.size, fun i hi => hg.block i hi (by simp)⟩
  have hl2 : (qs ++ [q]).length = qs.length + 1 := by simp
  have hown2 : W'.ownsRow W.heap.size 113 4 v' (qs ++ [q]).length ((rs ++ [r]).flatMap r4cells) := by
    rw [hl2, List.flatMap_append]
    simpa using hown
  obtain ⟨g', c', hv, hgg, hR⟩ := RRow.of_own hown2 (by simp [h1]) (fun j hj => by
    rw [hl2] at hj
    by_cases e : j < qs.length
    · rw [show (rs ++ [r]).getD j r4z = rs.getD j r4z by simp [List.getD, List.getElem?_append_left (show j < rs.length by omega)], show (qs ++ [q]).getD j 0 = qs.getD j 0 by simp [List.getD, List.getElem?_append_left e]]
      exact (h3 j e).ext E
    · obtain rfl : j = qs.length := by omega
      rw [show (rs ++ [r]).getD qs.length r4z = r by rw [← h1]; simp [List.getD], show (qs ++ [q]).getD qs.length 0 = q by simp [List.getD]]
      exact hq.ext E) (by rw [hl2]; omega)
  rw [hl2] at hv
  exact ⟨v', W', g', c', hrun, hv, hgg, hR, E⟩

/-- A new row is put in the place of another one. -/
theorem IsMat.swap {W : World} {gm : Nat} {gs caps : Nat → Nat} {rows : List (List Rat)} (h : IsMat W gm gs caps rows) {i : Nat} (hi : i < rows.length) {g c : Nat} {qs : List Rat} (hr : RRow W g c qs) (hne : ∀ k, k < rows.length → gs k ≠ g) :
    IsMat (W.setCell ⟨gm, i, none⟩ (.slice (some ⟨g, 0, none⟩) qs.length c)) gm (fun k => if k = i then g else gs k) (fun k => if k = i then c else caps k) (rows.set i qs) := by
  have hK : Keep (fun b => b = gm) W (W.setCell ⟨gm, i, none⟩ (.slice (some ⟨g, 0, none⟩) qs.length c)) := (Keep.refl (fun b => b = gm) W).setCell (p := ⟨gm, i, none⟩) (.inl rfl) _
  have hty := h.ty
  have hN : NoDigits W (fun b => b = gm) := fun b hb => ⟨105, by rw [hb]; exact hty, by decide⟩
  obtain ⟨cs, h1, h2, h3, h4⟩ := h
  refine ⟨_, h1.set_ i _, by simp [h2], fun k hk => ?_, fun a b ha hb => ?_⟩
  · simp only [List.length_set] at hk
    by_cases e : k = i
    · subst e
      simp only [if_true]
      rw [Array.getElem?_setIfInBounds_self, if_pos (by omega), show (rows.set k qs).getD k [] = qs by simp [List.getD, hk]]
      exact ⟨rfl, hr.keep hK (hr.ty.ne h1.ty (by decide)) hN⟩
    · simp only [if_neg e]
      rw [Array.getElem?_setIfInBounds_ne (fun h => e h.symm), show (rows.set i qs).getD k [] = rows.getD k [] by simp [List.getD, List.getElem?_set_ne (Ne.symm e)]]
      have := h3 k hk
      exact ⟨this.1, this.2.keep hK (this.2.ty.ne h1.ty (by decide)) hN⟩
  · simp only [List.length_set] at ha hb
    by_cases e : a = i <;> by_cases e' : b = i
    · intro _; omega
    · simp only [if_pos e, if_neg e']; exact fun h => absurd h.symm (hne b hb)
    · simp only [if_neg e, if_pos e']; exact fun h => absurd h (hne a ha)
    · simp only [if_neg e, if_neg e']; exact h4 a b ha hb

end Go.Proofs.YtncabodphjkkfaaGreat
