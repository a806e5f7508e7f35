/- Elimination in a matrix of fractions, in plain Lean. Conditions: none. -/
import Derived.Test.YtncabodphjkkfaaGreatM1
namespace Go.Proofs.YtncabodphjkkfaaGreat

/-- Row r less q times row p, in the places from c up to j. -/
def subRow (r p : List Rat) (c j : Nat) (q : Rat) : List Rat := r.mapIdx fun k x => if c ≤ k ∧ k < j then x - q * p.getD k 0 else x
theorem subRow_length (r p : List Rat) (c j : Nat) (q : Rat) : (subRow r p c j q).length = r.length := by simp [subRow]
theorem subRow_get (r p : List Rat) (c j k : Nat) (q : Rat) (hk : k < r.length) : (subRow r p c j q).getD k 0 = if c ≤ k ∧ k < j then r.getD k 0 - q * p.getD k 0 else r.getD k 0 := by
  simp [subRow, List.getD, hk]
theorem subRow_start (r p : List Rat) (c : Nat) (q : Rat) : subRow r p c c q = r := by
  apply List.ext_getElem?
  intro k
  rw [subRow, List.getElem?_mapIdx]
  cases r[k]? with
  | none => rfl
  | some x => simp only [Option.map_some]; rw [if_neg (by omega)]
theorem subRow_succ (r p : List Rat) (c j : Nat) (q : Rat) (hj : j < r.length) (hc : c ≤ j) : (subRow r p c j q).set j (r.getD j 0 - q * p.getD j 0) = subRow r p c (j + 1) q := by
  apply List.ext_getElem?
  intro k
  rw [List.getElem?_set, subRow, subRow, List.getElem?_mapIdx, List.getElem?_mapIdx, List.length_mapIdx]
  by_cases e : j = k
  · subst e
    rw [if_pos rfl, if_pos hj, List.getElem?_eq_getElem hj, Option.map_some, if_pos ⟨hc, by omega⟩]
    simp [List.getD, hj]
  · rw [if_neg e]
    cases r[k]? with
    | none => rfl
    | some x =>
      simp only [Option.map_some]
      by_cases h : c ≤ k ∧ k < j
      · rw [if_pos h, if_pos (by omega)]
      · rw [if_neg h, if_neg (by omega)]

def pivq (A : List (List Rat)) (c i : Nat) : Rat := mget A i c / mget A c c
/-- The rows from c + 1 up to i are cleared in column c. -/
def elimPart (A : List (List Rat)) (c i : Nat) : List (List Rat) := A.mapIdx fun k r => if c < k ∧ k < i then subRow r (A.getD c []) c r.length (pivq A c k) else r
def elimTo (rows : List (List Rat)) : Nat → List (List Rat)
  | 0 => rows
  | c + 1 => elimPart (elimTo rows c) c rows.length
def detTo (rows : List (List Rat)) : Nat → Rat
  | 0 => 1
  | c + 1 => detTo rows c * mget (elimTo rows c) c c

def Dim (A : List (List Rat)) (N M : Nat) : Prop := A.length = N ∧ ∀ k, k < N → (A.getD k []).length = M

theorem elimPart_length (A : List (List Rat)) (c i : Nat) : (elimPart A c i).length = A.length := by simp [elimPart]
theorem elimPart_row (A : List (List Rat)) (c i k : Nat) (hk : k < A.length) : (elimPart A c i).getD k [] = if c < k ∧ k < i then subRow (A.getD k []) (A.getD c []) c (A.getD k []).length (pivq A c k) else A.getD k [] := by
  simp [elimPart, List.getD, hk]
theorem elimPart_start (A : List (List Rat)) (c : Nat) : elimPart A c (c + 1) = A := by
  apply List.ext_getElem?
  intro k
  rw [elimPart, List.getElem?_mapIdx]
  cases A[k]? with
  | none => rfl
  | some x => simp only [Option.map_some]; rw [if_neg (by omega)]
theorem elimPart_succ (A : List (List Rat)) (c i : Nat) (hc : c < i) (hi : i < A.length) : (elimPart A c i).set i (subRow (A.getD i []) (A.getD c []) c (A.getD i []).length (pivq A c i)) = elimPart A c (i + 1) := by
  apply List.ext_getElem?
  intro k
  rw [List.getElem?_set, elimPart, elimPart, List.getElem?_mapIdx, List.getElem?_mapIdx, List.length_mapIdx]
  by_cases e : i = k
  · subst e
    rw [if_pos rfl, if_pos hi, List.getElem?_eq_getElem hi, Option.map_some, if_pos ⟨hc, by omega⟩]
    simp [List.getD, hi]
  · rw [if_neg e]
    cases A[k]? with
    | none => rfl
    | some x =>
      simp only [Option.map_some]
      by_cases h : c < k ∧ k < i
      · rw [if_pos h, if_pos (by omega)]
      · rw [if_neg h, if_neg (by omega)]
theorem subRow_zero (r p : List Rat) (c j : Nat) : subRow r p c j 0 = r := by
  apply List.ext_getElem?
  intro k
  rw [subRow, List.getElem?_mapIdx]
  cases r[k]? with
  | none => rfl
  | some x => simp only [Option.map_some]; split <;> simp [Rat.zero_mul, Rat.sub_eq_add_neg, Rat.add_zero]
theorem elimPart_skip (A : List (List Rat)) (c i : Nat) (hc : c < i) (hi : i < A.length) (h0 : mget A i c = 0) : elimPart A c (i + 1) = elimPart A c i := by
  rw [← elimPart_succ A c i hc hi, pivq, h0, Rat.div_def, Rat.zero_mul, subRow_zero]
  apply List.ext_getElem?
  intro k
  rw [List.getElem?_set]
  by_cases e : i = k
  · subst e
    rw [elimPart_length, if_pos rfl, if_pos hi, elimPart, List.getElem?_mapIdx, List.getElem?_eq_getElem hi, Option.map_some, if_neg (by omega)]
    simp [List.getD, hi]
  · rw [if_neg e]
theorem Dim.elim {A : List (List Rat)} {N M : Nat} (h : Dim A N M) (c i : Nat) : Dim (elimPart A c i) N M :=
  ⟨by rw [elimPart_length]; exact h.1, fun k hk => by
    rw [elimPart_row A c i k (by rw [h.1]; exact hk)]
    split
    · rw [subRow_length]; exact h.2 k hk
    · exact h.2 k hk⟩
theorem Dim.to {A : List (List Rat)} {N M : Nat} (h : Dim A N M) (c : Nat) : Dim (elimTo A c) N M := by
  induction c with
  | zero => exact h
  | succ c ih => exact ih.elim c _

/-- Row i, its places from c up to j less q times those of row c. -/
def subPart (A : List (List Rat)) (c i j : Nat) (q : Rat) : List (List Rat) := A.set i (subRow (A.getD i []) (A.getD c []) c j q)
theorem subPart_start (A : List (List Rat)) (c i : Nat) (q : Rat) (hi : i < A.length) : subPart A c i c q = A := by
  rw [subPart, subRow_start]
  apply List.ext_getElem?
  intro k
  rw [List.getElem?_set]
  by_cases e : i = k
  · subst e; rw [if_pos rfl, if_pos hi]; simp [List.getD, hi]
  · rw [if_neg e]
theorem subPart_row (A : List (List Rat)) (c i j k : Nat) (q : Rat) (hk : k ≠ i) : (subPart A c i j q).getD k [] = A.getD k [] := by
  simp [subPart, List.getD, List.getElem?_set_ne (Ne.symm hk)]
theorem subPart_self (A : List (List Rat)) (c i j : Nat) (q : Rat) (hi : i < A.length) : (subPart A c i j q).getD i [] = subRow (A.getD i []) (A.getD c []) c j q := by
  simp [subPart, List.getD, hi]
theorem subPart_succ (A : List (List Rat)) (c i j : Nat) (q : Rat) (hi : i < A.length) (hj : j < (A.getD i []).length) (hc : c ≤ j) :
    mset (subPart A c i j q) i j (mget A i j - q * mget A c j) = subPart A c i (j + 1) q := by
  unfold mset mget
  rw [subPart_self A c i j q hi, subRow_succ _ _ c j q hj hc, subPart, subPart, List.set_set]
theorem subPart_get (A : List (List Rat)) (c i j : Nat) (q : Rat) (hi : i < A.length) (hj : j < (A.getD i []).length) : mget (subPart A c i j q) i j = mget A i j := by
  unfold mget
  rw [subPart_self A c i j q hi, subRow_get _ _ c j j q hj, if_neg (by omega)]
theorem subPart_dim {A : List (List Rat)} {N M : Nat} (h : Dim A N M) (c i j : Nat) (q : Rat) : Dim (subPart A c i j q) N M :=
  ⟨by simp [subPart, h.1], fun k hk => by
    by_cases e : k = i
    · subst e; rw [subPart_self A c k j q (by rw [h.1]; exact hk), subRow_length]; exact h.2 k hk
    · rw [subPart_row A c i j k q e]; exact h.2 k hk⟩

/-- What elimination needs: pivots that are not 0, and sizes that fit into a machine. -/
structure TriOk (rows : List (List Rat)) (N M L : Nat) : Prop where
  dim : Dim rows N M
  fits : N ≤ M
  piv : ∀ c, c < N → mget (elimTo rows c) c c ≠ 0
  det : ∀ c, c < N → RatLen (detTo rows c) L
  el : ∀ c, c < N → ∀ i, i < N → ∀ j, j < M → RatLen (mget (elimTo rows c) i j) L
  quot : ∀ c, c < N → ∀ i, c < i → i < N → RatLen (pivq (elimTo rows c) c i) L
  prod : ∀ c, c < N → ∀ i, c < i → i < N → ∀ j, c ≤ j → j < M → RatLen (pivq (elimTo rows c) c i * mget (elimTo rows c) c j) L

end Go.Proofs.YtncabodphjkkfaaGreat
