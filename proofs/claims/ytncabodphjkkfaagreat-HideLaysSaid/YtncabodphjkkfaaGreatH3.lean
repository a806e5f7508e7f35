/- The laying of sizes in a width, in plain Lean. Conditions: none. -/
import Derived.Test.YtncabodphjkkfaaGreatH2
namespace Go.Proofs.YtncabodphjkkfaaGreat
open Go.RowKit Go.Limbs

/-- A square: x, y, size. -/
abbrev Sq := Int × Int × Int
def sqCells (q : Sq) : List Value := [ival q.1, ival q.2.1, ival q.2.2]
def firstMin (f : List Int) : Nat := (List.range f.length).foldl (fun x k => if f.getD k 0 < f.getD x 0 then k else x) 0
def layStep (f : List Int) (s : Int) : Option (Sq × List Int) :=
  if (firstMin f : Int) + s ≤ f.length ∧ f.getD (firstMin f) 0 + s ≤ 1000 ∧ (List.range s.toNat).all (fun k => decide (f.getD (firstMin f + k) 0 ≤ f.getD (firstMin f) 0)) = true then
    some (((firstMin f : Int), f.getD (firstMin f) 0, s), addTo f (firstMin f) s.toNat s) else none
def layK (w : Nat) (ss : List Int) : Nat → Option (List Sq × List Int)
  | 0 => some ([], List.replicate w 0)
  | k+1 => (layK w ss k).bind fun p => (layStep p.2 (ss.getD k 0)).map fun q => (p.1 ++ [q.1], q.2)
def lay (w : Nat) (ss : List Int) : Option (List Sq) :=
  (layK w ss ss.length).bind fun p => if p.2.all (fun y => y == p.2.getD 0 0) then some p.1 else none

theorem firstMin_inv (f : List Int) (m : Nat) (hm : 0 < m) : ∃ x, (List.range m).foldl (fun x k => if f.getD k 0 < f.getD x 0 then k else x) 0 = x ∧ x < m ∧ (∀ j, j < m → f.getD x 0 ≤ f.getD j 0) ∧ ∀ j, j < x → f.getD x 0 < f.getD j 0 := by
  induction m with
  | zero => omega
  | succ m ih =>
    rw [List.range_succ, List.foldl_append]
    by_cases h0 : m = 0
    · subst h0
      refine ⟨0, by simp, by omega, fun j hj => ?_, fun j hj => by omega⟩
      obtain rfl : j = 0 := by omega
      exact Int.le_refl _
    · obtain ⟨x, hx, hlt, hle, hst⟩ := ih (by omega)
      rw [hx]
      simp only [List.foldl_cons, List.foldl_nil]
      by_cases hc : f.getD m 0 < f.getD x 0
      · rw [if_pos hc]
        refine ⟨m, rfl, by omega, fun j hj => ?_, fun j hj => ?_⟩
        · rcases Nat.lt_or_ge j m with h | h
          · exact Int.le_trans (Int.le_of_lt hc) (hle j h)
          · obtain rfl : j = m := by omega
            exact Int.le_refl _
        · exact Int.lt_of_lt_of_le hc (hle j hj)
      · rw [if_neg hc]
        refine ⟨x, rfl, by omega, fun j hj => ?_, hst⟩
        rcases Nat.lt_or_ge j m with h | h
        · exact hle j h
        · obtain rfl : j = m := by omega
          exact Int.not_lt.1 hc

theorem firstMin_spec (f : List Int) (h : 0 < f.length) : firstMin f < f.length ∧ (∀ j, j < f.length → f.getD (firstMin f) 0 ≤ f.getD j 0) ∧ ∀ j, j < firstMin f → f.getD (firstMin f) 0 < f.getD j 0 := by
  obtain ⟨x, hx, h1, h2, h3⟩ := firstMin_inv f f.length h
  unfold firstMin
  rw [hx]
  exact ⟨h1, h2, h3⟩
theorem firstMin_unique {f : List Int} {a : Nat} (ha : a < f.length) (hle : ∀ j, j < f.length → f.getD a 0 ≤ f.getD j 0) (hne : ∀ j, j < a → f.getD j 0 ≠ f.getD a 0) : firstMin f = a := by
  obtain ⟨h1, h2, h3⟩ := firstMin_spec f (by omega)
  rcases Nat.lt_trichotomy (firstMin f) a with h | h | h
  · have := hne _ h
    have h4 := h2 a ha
    have h5 := hle _ h1
    omega
  · exact h
  · have h4 := h3 a h
    have h5 := hle _ h1
    omega
theorem NextAt.min {f : List Int} {a n : Nat} (h : NextAt f a n) : firstMin f = a := firstMin_unique h.lt h.le h.first

theorem layStep_some {f : List Int} {a n : Nat} (h : NextAt f a n) {s : Nat} (_hs : 1 ≤ s) (hn : s ≤ n) (hy : f.getD a 0 + s ≤ 1000) :
    layStep f s = some (((a : Int), f.getD a 0, (s : Int)), addTo f a s s) := by
  unfold layStep
  rw [h.min, if_pos]
  · rfl
  · refine ⟨by have := h.fits; omega, hy, ?_⟩
    rw [List.all_eq_true]
    intro k hk
    have := h.same k (by simp at hk; omega)
    simp only [decide_eq_true_eq]
    omega
theorem layStep_none {f : List Int} {a n : Nat} (h : NextAt f a n) {s : Nat} (_hs : 1 ≤ s) (hn : n < s ∨ 1000 < f.getD a 0 + s) : layStep f s = none := by
  unfold layStep
  rw [h.min, if_neg]
  rintro ⟨h1, h2, h3⟩
  rcases hn with hn | hn
  · rw [List.all_eq_true] at h3
    have h4 := h3 n (by simp; omega)
    simp only [decide_eq_true_eq] at h4
    have h5 : a + n < f.length := by omega
    have h6 := h.ends h5
    have h7 := h.le _ h5
    omega
  · omega

theorem layK_none {w : Nat} {ss : List Int} {k : Nat} (h : layK w ss k = none) : ∀ m, k ≤ m → layK w ss m = none := by
  intro m
  induction m with
  | zero => intro hk; obtain rfl : k = 0 := by omega
            exact h
  | succ m ih =>
    intro hk
    rcases Nat.lt_or_ge m k with h1 | h1
    · obtain rfl : k = m + 1 := by omega
      exact h
    · simp [layK, ih h1]
theorem lay_none {w : Nat} {ss : List Int} {k : Nat} (hk : k ≤ ss.length) (h : layK w ss k = none) : lay w ss = none := by
  unfold lay
  rw [layK_none h _ hk]
  rfl
theorem layK_succ_none {w : Nat} {ss : List Int} {k : Nat} {out : List Sq} {f : List Int} (h : layK w ss k = some (out, f)) (hs : layStep f (ss.getD k 0) = none) : layK w ss (k + 1) = none := by
  rw [layK, h, Option.bind_some, hs]; rfl
theorem layK_succ_some {w : Nat} {ss : List Int} {k : Nat} {out : List Sq} {f f' : List Int} {q : Sq} (h : layK w ss k = some (out, f)) (hs : layStep f (ss.getD k 0) = some (q, f')) : layK w ss (k + 1) = some (out ++ [q], f') := by
  rw [layK, h, Option.bind_some, hs]; rfl
theorem lay_level {w : Nat} {ss : List Int} {out : List Sq} {f : List Int} (h : layK w ss ss.length = some (out, f)) {m M : Int} (hm : IsMin m f) (hM : IsMax M f) : lay w ss = if m = M then some out else none := by
  unfold lay
  rw [h]
  simp only [Option.bind_some]
  obtain ⟨⟨a, ha, ea⟩, hle⟩ := hm
  obtain ⟨⟨b, hb, eb⟩, hge⟩ := hM
  by_cases e : m = M
  · rw [if_pos e, if_pos]
    rw [List.all_eq_true]
    intro y hy
    obtain ⟨j, hj, rfl⟩ := List.getElem_of_mem hy
    have h1 := hle j hj; have h2 := hge j hj
    have h3 := hle 0 (by omega); have h4 := hge 0 (by omega)
    have e1 : f.getD j 0 = f[j] := by simp [List.getD, hj]
    rw [beq_iff_eq]
    omega
  · rw [if_neg e, if_neg]
    intro hall
    rw [List.all_eq_true] at hall
    have h1 := hall (f.getD a 0) (by rw [show f.getD a 0 = f[a] by simp [List.getD, ha]]; exact List.getElem_mem ha)
    have h2 := hall (f.getD b 0) (by rw [show f.getD b 0 = f[b] by simp [List.getD, hb]]; exact List.getElem_mem hb)
    rw [beq_iff_eq] at h1 h2
    omega

/-- A floor's numbers. -/
def Floor (w : Nat) (f : List Int) : Prop := f.length = w ∧ ∀ j, j < f.length → 0 ≤ f.getD j 0 ∧ f.getD j 0 ≤ 1000
theorem Floor.step {w : Nat} {f : List Int} {a n s : Nat} (hf : Floor w f) (h : NextAt f a n) (hn : s ≤ n) (hy : f.getD a 0 + s ≤ 1000) : Floor w (addTo f a s s) := by
  refine ⟨by rw [addTo_length]; exact hf.1, fun j hj => ?_⟩
  rw [addTo_length] at hj
  rw [addTo_get _ _ _ _ _ hj]
  have h1 := hf.2 j hj
  split
  · rename_i h2
    have := h.same (j - a) (by omega)
    rw [show a + (j - a) = j by omega] at this
    omega
  · exact h1
theorem Floor.zero (w : Nat) : Floor w (List.replicate w 0) := ⟨by simp, fun j hj => by simp [List.getD, List.getElem?_replicate]; split <;> simp⟩

end Go.Proofs.YtncabodphjkkfaaGreat
