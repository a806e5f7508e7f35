/- Rows and matrices of fractions in memory, and what a call may turn. Conditions: none. -/
import Derived.Test.YtncabodphjkkfaaGreatN14
import Derived.Test.YtncabodphjkkfaaGreatApp
namespace Go.Proofs.YtncabodphjkkfaaGreat
open Go.RowKit Go.Limbs Go.Shelf

/-- Only the blocks of S, and what is new, may have turned. -/
structure Keep (S : Nat → Prop) (w w' : World) : Prop where
  os : w'.os = w.os
  tape : w'.tape = w.tape
  output : w'.output = w.output
  size : w.heap.size ≤ w'.heap.size
  block : ∀ i, i < w.heap.size → ¬ S i → w'.heap[i]? = w.heap[i]?

theorem Keep.refl (S : Nat → Prop) (w : World) : Keep S w w := ⟨rfl, rfl, rfl, Nat.le_refl _, fun _ _ _ => rfl⟩
theorem Keep.trans {S : Nat → Prop} {a b c : World} (h : Keep S a b) (k : Keep S b c) : Keep S a c :=
  ⟨k.os.trans h.os, k.tape.trans h.tape, k.output.trans h.output, Nat.le_trans h.size k.size, fun i hi hs => (k.block i (Nat.lt_of_lt_of_le hi h.size) hs).trans (h.block i hi hs)⟩
theorem Keep.mono {S T : Nat → Prop} {a b : World} (h : Keep S a b) (hst : ∀ i, S i → T i) : Keep T a b :=
  ⟨h.os, h.tape, h.output, h.size, fun i hi hs => h.block i hi fun k => hs (hst i k)⟩
theorem Keep.ext {a b : World} {S : Nat → Prop} (h : Ext a b) : Keep S a b := ⟨h.os, h.tape, h.output, h.size, fun i hi _ => h.block i hi⟩
theorem Keep.below {S : Nat → Prop} {a b : World} {B : Nat} (h : Keep S a b) (hB : B ≤ a.heap.size) (hs : ∀ i, S i → B ≤ i) : Below B a b :=
  ⟨h.os, h.tape, h.output, h.size, fun i hi => h.block i (Nat.lt_of_lt_of_le hi hB) fun k => Nat.lt_irrefl _ (Nat.lt_of_lt_of_le hi (hs i k))⟩
/-- A call turns blocks of the caller's own alone, or blocks that are not older than the caller. -/
theorem Keep.ext_of {S : Nat → Prop} {w0 a b : World} (h : Keep S a b) (E : Ext w0 a) (hs : ∀ i, S i → w0.heap.size ≤ i) : Ext w0 b := E.trans (h.below E.size hs)
theorem Keep.setCell {S : Nat → Prop} {a b : World} (h : Keep S a b) {p : Addr} (hp : S p.block ∨ a.heap.size ≤ p.block) (u : Value) : Keep S a (b.setCell p u) :=
  ⟨h.os, h.tape, h.output, by simpa [World.setCell] using h.size, fun i hi hs => (Below.heap_setCell b p u i (fun e => by
    rcases hp with hp | hp
    · exact hs (e ▸ hp)
    · omega)).trans (h.block i hi hs)⟩
theorem Keep.of_grown {S : Nat → Prop} {a b : World} {row : Option Nat} (h : a.grownBy b row) (hs : ∀ g, row = some g → S g) : Keep S a b :=
  ⟨h.os, h.tape, h.output, h.size, fun i hi hn => h.block i hi fun e => hn (hs i e.symm)⟩

section
variable {S : Nat → Prop} {w w' : World}
theorem TyBlk.keep {b : Nat} {T : TypeId} (h : TyBlk w b T) (k : Keep S w w') (hn : ¬ S b) : TyBlk w' b T := by
  have hl := h.lt
  obtain ⟨cs, fr, hh⟩ := h
  exact ⟨cs, fr, (k.block b hl hn).trans hh⟩
theorem Blk.keep {g : Nat} {t : TypeId} {cs : Array Value} (h : Blk w g t cs) (k : Keep S w w') (hn : ¬ S g) : Blk w' g t cs := (k.block g h.lt hn).trans h

/-- The blocks of S hold no digits. -/
def NoDigits (w : World) (S : Nat → Prop) : Prop := ∀ b, S b → ∃ T, TyBlk w b T ∧ T ≠ 163
theorem Rd.keepT {T : TypeId} {A : Option Addr} {xs : List Value} (h : Rd w T A xs) (k : Keep S w w') (hs : ∀ b, S b → ¬ TyBlk w b T) : Rd w' T A xs := fun hne => by
  obtain ⟨b, off, hA, hb, hc⟩ := h hne
  have hn : ¬ S b := fun h => hs b h hb
  exact ⟨b, off, hA, hb.keep k hn, fun j hj => (World.cell?_of_block (w := w) (a := ⟨b, off + j, none⟩) (k.block b hb.lt hn)).trans (hc j hj)⟩
theorem Mag.keep {v : Value} {n : Nat} (h : Mag w v n) (k : Keep S w w') (hs : NoDigits w S) : Mag w' v n := by
  obtain ⟨A, cap, hv, h1, h2, h3, h4⟩ := h
  refine ⟨A, cap, hv, h1, h2, h3, h4.keepT k fun b hb ht => ?_⟩
  obtain ⟨T, hT, hne⟩ := hs b hb
  exact hT.ne ht hne rfl
theorem IsInt.keep {v : Value} {i : Int} (h : IsInt w v i) (k : Keep S w w') (hs : NoDigits w S) : IsInt w' v i := by
  obtain ⟨s, hv, h1⟩ := h; exact ⟨s, hv, h1.keep k hs⟩
theorem IsRat.keep {v : Value} {q : Rat} (h : IsRat w v q) (k : Keep S w w') (hs : NoDigits w S) : IsRat w' v q := by
  obtain ⟨s, t, hv, h1, h2⟩ := h; exact ⟨s, t, hv, h1.keep k hs, h2.keep k hs⟩
end

/-- The four cells of a fraction. -/
abbrev R4 := Value × Value × Value × Value
def R4.val (r : R4) : Value := .agg #[r.1, r.2.1, r.2.2.1, r.2.2.2]
def r4z : R4 := (undef, undef, undef, undef)
def r4cells (r : R4) : List Value := [r.1, r.2.1, r.2.2.1, r.2.2.2]
theorem IsRat.r4 {w : World} {v : Value} {q : Rat} (h : IsRat w v q) : ∃ r : R4, v = r.val := by
  obtain ⟨s, t, hv, _⟩ := h; exact ⟨(_, _, _, _), hv⟩
theorem IsRat.ones {w : World} {r : R4} {q : Rat} (h : IsRat w r.val q) : ∀ u ∈ r4cells r, u.oneCell' = true := by
  obtain ⟨s, t, hv, hs, ht⟩ := h
  obtain ⟨a, b, c, d⟩ := r
  injection hv with hv
  injection hv with hv
  injection hv with h1 hv
  injection hv with h2 hv
  injection hv with h3 hv
  injection hv with h4 hv
  simp only at h1 h2 h3 h4
  subst h1 h2 h3 h4
  intro u hu
  simp [r4cells] at hu
  rcases hu with rfl | rfl | rfl | rfl
  · rfl
  · exact hs.one
  · rfl
  · exact ht.one

/-- The four cells at a place. -/
def Cell4 (w : World) (b o : Nat) (r : R4) : Prop := w.cell? ⟨b, o, none⟩ = some r.1 ∧ w.cell? ⟨b, o + 1, none⟩ = some r.2.1 ∧ w.cell? ⟨b, o + 2, none⟩ = some r.2.2.1 ∧ w.cell? ⟨b, o + 3, none⟩ = some r.2.2.2

theorem r4_length (rs : List R4) : (rs.flatMap r4cells).length = rs.length * 4 := by
  induction rs with
  | nil => rfl
  | cons q l ih => rw [List.flatMap_cons, List.length_append, ih, List.length_cons, show (r4cells q).length = 4 from rfl]; omega
theorem r4_get (l : List R4) (k j : Nat) (hj : j < 4) (hk : k < l.length) : (l.flatMap r4cells)[k * 4 + j]? = (r4cells (l.getD k r4z))[j]? := by
  induction l generalizing k with
  | nil => simp at hk
  | cons q l ih =>
    rw [List.flatMap_cons]
    rcases k with _ | k
    · rw [List.getElem?_append_left (by rw [show (r4cells q).length = 4 from rfl]; omega)]
      simp [List.getD]
    · rw [List.getElem?_append_right (by rw [show (r4cells q).length = 4 from rfl]; omega), show (r4cells q).length = 4 from rfl, show (k + 1) * 4 + j - 4 = k * 4 + j by omega, ih k (by simpa using hk)]
      simp [List.getD]

/-- v is a slice of the fractions qs, read only. -/
def Rats (w : World) (v : Value) (qs : List Rat) : Prop :=
  ∃ A cap rs, v = .slice A qs.length cap ∧ qs.length ≤ cap ∧ qs.length ≤ 1152921504606846976 ∧ List.length rs = qs.length ∧ Rd w 113 A (rs.flatMap r4cells) ∧ ∀ j, j < qs.length → IsRat w (R4.val (rs.getD j r4z)) (qs.getD j 0)
theorem Rats.ext {w w' : World} {v : Value} {qs : List Rat} (h : Rats w v qs) (E : Ext w w') : Rats w' v qs := by
  obtain ⟨A, cap, rs, hv, h1, h2, h3, h4, h5⟩ := h
  exact ⟨A, cap, rs, hv, h1, h2, h3, h4.ext E, fun j hj => (h5 j hj).ext E⟩
theorem Rats.at {w : World} {A : Option Addr} {rs : List R4} {qs : List Rat} (h : Rd w 113 A (rs.flatMap r4cells)) (hl : rs.length = qs.length) (hq : ∀ j, j < qs.length → IsRat w (R4.val (rs.getD j r4z)) (qs.getD j 0)) {k : Nat} (hk : k < qs.length) :
    ∃ b off, A = some ⟨b, off, none⟩ ∧ TyBlk w b 113 ∧ ∀ j, j < qs.length → ∃ r : R4, Cell4 w b (off + j * 4) r ∧ IsRat w r.val (qs.getD j 0) := by
  obtain ⟨b, off, hA, hb, hc⟩ := h (by intro e; have := r4_length rs; rw [e] at this; simp at this; omega)
  refine ⟨b, off, hA, hb, fun j hj => ⟨rs.getD j r4z, ?_, hq j hj⟩⟩
  have hlen := r4_length rs
  have h0 := hc (j * 4) (by omega)
  have h1 := hc (j * 4 + 1) (by omega)
  have h2 := hc (j * 4 + 2) (by omega)
  have h3 := hc (j * 4 + 3) (by omega)
  rw [List.getD, show j * 4 = j * 4 + 0 from rfl, r4_get rs j 0 (by omega) (by omega)] at h0
  rw [List.getD, r4_get rs j 1 (by omega) (by omega)] at h1
  rw [List.getD, r4_get rs j 2 (by omega) (by omega)] at h2
  rw [List.getD, r4_get rs j 3 (by omega) (by omega)] at h3
  exact ⟨h0, h1, h2, h3⟩

/-- Block g begins with the fractions qs; it has room for c. -/
def RRow (w : World) (g c : Nat) (qs : List Rat) : Prop :=
  ∃ (cs : Array Value) (rs : List R4), Blk w g 113 cs ∧ cs.size = c * 4 ∧ qs.length ≤ c ∧ c ≤ maxLen ∧ rs.length = qs.length ∧ cs.toList.take (qs.length * 4) = rs.flatMap r4cells ∧ ∀ j, j < qs.length → IsRat w (R4.val (rs.getD j r4z)) (qs.getD j 0)
theorem RRow.ty {w : World} {g c : Nat} {qs : List Rat} (h : RRow w g c qs) : TyBlk w g 113 := by
  obtain ⟨cs, rs, hB, _⟩ := h; exact hB.ty
theorem RRow.keep {S : Nat → Prop} {w w' : World} {g c : Nat} {qs : List Rat} (h : RRow w g c qs) (k : Keep S w w') (hn : ¬ S g) (hs : NoDigits w S) : RRow w' g c qs := by
  obtain ⟨cs, rs, hB, h1, h2, h3, h4, h5, h6⟩ := h
  exact ⟨cs, rs, hB.keep k hn, h1, h2, h3, h4, h5, fun j hj => (h6 j hj).keep k hs⟩
theorem noDigits_none (w : World) : NoDigits w (fun _ => False) := fun _ h => h.elim
theorem RRow.ext {w w' : World} {g c : Nat} {qs : List Rat} (h : RRow w g c qs) (E : Ext w w') : RRow w' g c qs := h.keep (S := fun _ => False) (Keep.ext E) id (noDigits_none w)
theorem RRow.rd {w : World} {g c : Nat} {qs : List Rat} (h : RRow w g c qs) : ∃ rs : List R4, rs.length = qs.length ∧ Rd w 113 (some ⟨g, 0, none⟩) (rs.flatMap r4cells) ∧ ∀ j, j < qs.length → IsRat w (R4.val (rs.getD j r4z)) (qs.getD j 0) := by
  obtain ⟨cs, rs, hB, h1, h2, h3, h4, h5, h6⟩ := h
  refine ⟨rs, h4, Rd.of_blk hB 0 _ (fun j hj => ?_), h6⟩
  rw [← h5] at hj ⊢
  rw [Nat.zero_add, List.getElem?_take_of_lt (by have := List.length_take_le (qs.length * 4) cs.toList; simp only [List.length_take] at hj; omega)]
  simp
theorem RRow.at {w : World} {g c : Nat} {qs : List Rat} (h : RRow w g c qs) {j : Nat} (hj : j < qs.length) : ∃ r : R4, Cell4 w g (j * 4) r ∧ IsRat w r.val (qs.getD j 0) := by
  obtain ⟨rs, hl, hrd, hq⟩ := h.rd
  obtain ⟨b, off, hA, hb, hc⟩ := Rats.at hrd hl hq hj
  injection hA with hA
  injection hA with h1 h2
  obtain ⟨r, hr, hq⟩ := hc j hj
  rw [← h1, ← h2, Nat.zero_add] at hr
  exact ⟨r, hr, hq⟩
theorem RRow.rats {w : World} {g c : Nat} {qs : List Rat} (h : RRow w g c qs) (hl : qs.length ≤ 1152921504606846976) : Rats w (.slice (some ⟨g, 0, none⟩) qs.length c) qs := by
  obtain ⟨rs, h1, h2, h3⟩ := h.rd
  obtain ⟨cs, rs', hB, _, h5, _⟩ := h
  exact ⟨_, c, rs, rfl, h5, hl, h1, h2, h3⟩

def rput4 (w : World) (g o : Nat) (r : R4) : World := (((w.setCell ⟨g, o, none⟩ r.1).setCell ⟨g, o + 1, none⟩ r.2.1).setCell ⟨g, o + 2, none⟩ r.2.2.1).setCell ⟨g, o + 3, none⟩ r.2.2.2
theorem Keep.rput4 {S : Nat → Prop} {a b : World} (h : Keep S a b) {g o : Nat} (hp : S g ∨ a.heap.size ≤ g) (r : R4) : Keep S a (rput4 b g o r) :=
  (((h.setCell (p := ⟨g, o, none⟩) hp _).setCell (p := ⟨g, o + 1, none⟩) hp _).setCell (p := ⟨g, o + 2, none⟩) hp _).setCell (p := ⟨g, o + 3, none⟩) hp _
theorem Blk.rput4 {w : World} {g : Nat} {t : TypeId} {cs : Array Value} (h : Blk w g t cs) (o : Nat) (r : R4) :
    Blk (rput4 w g o r) g t ((((cs.setIfInBounds o r.1).setIfInBounds (o + 1) r.2.1).setIfInBounds (o + 2) r.2.2.1).setIfInBounds (o + 3) r.2.2.2) := (((h.set_ o _).set_ (o + 1) _).set_ (o + 2) _).set_ (o + 3) _

theorem r4_set (rs : List R4) (k : Nat) (r : R4) (hk : k < rs.length) : (rs.set k r).flatMap r4cells = ((((rs.flatMap r4cells).set (k * 4) r.1).set (k * 4 + 1) r.2.1).set (k * 4 + 2) r.2.2.1).set (k * 4 + 3) r.2.2.2 := by
  induction rs generalizing k with
  | nil => simp at hk
  | cons q l ih =>
    obtain ⟨a, b, c, d⟩ := q
    rcases k with _ | k
    · simp [r4cells, List.flatMap_cons]
    · rw [List.set_cons_succ, List.flatMap_cons, ih k (by simpa using hk), List.flatMap_cons]
      show [a, b, c, d] ++ _ = ((((([a, b, c, d] : List Value) ++ _).set _ _).set _ _).set _ _).set _ _
      rw [show (k + 1) * 4 + 1 = (k * 4 + 1) + 4 by omega, show (k + 1) * 4 + 2 = (k * 4 + 2) + 4 by omega, show (k + 1) * 4 + 3 = (k * 4 + 3) + 4 by omega, show (k + 1) * 4 = k * 4 + 4 by omega]
      simp

/-- A fraction stored in a row. -/
theorem RRow.put {w : World} {g c : Nat} {qs : List Rat} (h : RRow w g c qs) {k : Nat} (hk : k < qs.length) {r : R4} {q : Rat} (hr : IsRat w r.val q) : RRow (rput4 w g (k * 4) r) g c (qs.set k q) := by
  have hty := h.ty
  obtain ⟨cs, rs, hB, h1, h2, h3, h4, h5, h6⟩ := h
  have hK : Keep (fun b => b = g) w (rput4 w g (k * 4) r) := (Keep.refl (fun b => b = g) w).rput4 (.inl rfl) r
  have hN : NoDigits w (fun b => b = g) := fun b hb => ⟨113, by rw [hb]; exact hty, by decide⟩
  refine ⟨_, rs.set k r, hB.rput4 (k * 4) r, by simp [h1], by simp [h2], h3, by simp [h4], ?_, fun j hj => ?_⟩
  · rw [r4_set rs k r (by omega), ← h5]
    simp only [List.length_set, Array.toList_setIfInBounds]
    rw [List.take_set, List.take_set, List.take_set, List.take_set]
  · simp only [List.length_set] at hj
    by_cases e : k = j
    · subst e
      simp only [List.getD, List.getElem?_set_self (show k < rs.length by omega), List.getElem?_set_self hj, Option.getD_some]
      exact hr.keep hK hN
    · simp only [List.getD, List.getElem?_set_ne e]
      exact (h6 j hj).keep hK hN

/-- What an append leaves, and takes. -/
theorem RRow.of_own {w : World} {base : Nat} {v : Value} {rs : List R4} {qs : List Rat} (h : w.ownsRow base 113 4 v qs.length (rs.flatMap r4cells)) (hl : rs.length = qs.length) (hq : ∀ j, j < qs.length → IsRat w (R4.val (rs.getD j r4z)) (qs.getD j 0)) (hp : 0 < qs.length) :
    ∃ g c, v = .slice (some ⟨g, 0, none⟩) qs.length c ∧ base ≤ g ∧ RRow w g c qs := by
  rcases h.2 with ⟨hv, hn⟩ | ⟨g, cap, cur, hv, hb, hg, hnc, hcm, hcs, htk⟩
  · omega
  · exact ⟨g, cap, hv, hb, cur, rs, hg, hcs, hnc, hcm, hl, htk, hq⟩
theorem RRow.own {w : World} {g c : Nat} {qs : List Rat} (h : RRow w g c qs) : ∃ rs : List R4, rs.length = qs.length ∧ w.ownsRow g 113 4 (.slice (some ⟨g, 0, none⟩) qs.length c) qs.length (rs.flatMap r4cells) ∧ ∀ j, j < qs.length → IsRat w (R4.val (rs.getD j r4z)) (qs.getD j 0) := by
  obtain ⟨cs, rs, hB, h1, h2, h3, h4, h5, h6⟩ := h
  exact ⟨rs, h4, ⟨by rw [r4_length, h4], .inr ⟨g, c, cs, rfl, Nat.le_refl _, hB, h2, h3, h1, h5⟩⟩, h6⟩

/-- A matrix: block gm holds the slices of its rows, of which row i lies in block gs i with room for caps i. -/
def IsMat (w : World) (gm : Nat) (gs caps : Nat → Nat) (rows : List (List Rat)) : Prop :=
  ∃ cs : Array Value, Blk w gm 105 cs ∧ cs.size = rows.length ∧ (∀ i, i < rows.length → cs[i]? = some (.slice (some ⟨gs i, 0, none⟩) (rows.getD i []).length (caps i)) ∧ RRow w (gs i) (caps i) (rows.getD i [])) ∧
    ∀ i j, i < rows.length → j < rows.length → gs i = gs j → i = j
section
variable {w w' : World} {gm : Nat} {gs caps : Nat → Nat} {rows : List (List Rat)}
theorem IsMat.row (h : IsMat w gm gs caps rows) {i : Nat} (hi : i < rows.length) : RRow w (gs i) (caps i) (rows.getD i []) := by
  obtain ⟨cs, _, _, hr, _⟩ := h; exact (hr i hi).2
theorem IsMat.cell (h : IsMat w gm gs caps rows) {i : Nat} (hi : i < rows.length) : w.cell? ⟨gm, i, none⟩ = some (.slice (some ⟨gs i, 0, none⟩) (rows.getD i []).length (caps i)) := by
  obtain ⟨cs, hB, _, hr, _⟩ := h; rw [hB.cell]; exact (hr i hi).1
theorem IsMat.frozen (h : IsMat w gm gs caps rows) (i : Nat) : w.frozen? ⟨gm, i, none⟩ = false := by
  obtain ⟨cs, hB, _⟩ := h; exact hB.frozen i
theorem RRow.frozen {g c : Nat} {qs : List Rat} (h : RRow w g c qs) (i : Nat) : w.frozen? ⟨g, i, none⟩ = false := by
  obtain ⟨cs, rs, hB, _⟩ := h; exact hB.frozen i
theorem IsMat.ty (h : IsMat w gm gs caps rows) : TyBlk w gm 105 := by
  obtain ⟨cs, hB, _⟩ := h; exact hB.ty
theorem IsMat.inj (h : IsMat w gm gs caps rows) : ∀ i j, i < rows.length → j < rows.length → gs i = gs j → i = j := by
  obtain ⟨cs, _, _, _, hi⟩ := h; exact hi
theorem IsMat.ne (h : IsMat w gm gs caps rows) {i : Nat} (hi : i < rows.length) : gs i ≠ gm := (h.row hi).ty.ne h.ty (by decide)
/-- The blocks of a matrix. -/
def MatB (gm : Nat) (gs : Nat → Nat) (n : Nat) (b : Nat) : Prop := b = gm ∨ ∃ i, i < n ∧ b = gs i
def RowB (gs : Nat → Nat) (n : Nat) (b : Nat) : Prop := ∃ i, i < n ∧ b = gs i
theorem IsMat.noDigits (h : IsMat w gm gs caps rows) : NoDigits w (MatB gm gs rows.length) := fun b hb => by
  rcases hb with rfl | ⟨i, hi, rfl⟩
  · exact ⟨105, h.ty, by decide⟩
  · exact ⟨113, (h.row hi).ty, by decide⟩
theorem NoDigits.mono {S T : Nat → Prop} (h : NoDigits w T) (k : ∀ b, S b → T b) : NoDigits w S := fun b hb => h b (k b hb)
theorem IsMat.noRow (h : IsMat w gm gs caps rows) : NoDigits w (RowB gs rows.length) := h.noDigits.mono fun _ => .inr
theorem IsMat.ext (h : IsMat w gm gs caps rows) (E : Ext w w') : IsMat w' gm gs caps rows := by
  obtain ⟨cs, hB, h1, h2, h3⟩ := h
  exact ⟨cs, hB.ext E, h1, fun i hi => ⟨(h2 i hi).1, (h2 i hi).2.ext E⟩, h3⟩
/-- A block that is none of the matrix's may turn, if it holds no digits. -/
theorem IsMat.keep {S : Nat → Prop} (h : IsMat w gm gs caps rows) (k : Keep S w w') (hn : ∀ b, S b → ¬ MatB gm gs rows.length b) (hs : NoDigits w S) : IsMat w' gm gs caps rows := by
  obtain ⟨cs, hB, h1, h2, h3⟩ := h
  exact ⟨cs, hB.keep k (fun h => hn _ h (.inl rfl)), h1, fun i hi => ⟨(h2 i hi).1, (h2 i hi).2.keep k (fun h => hn _ h (.inr ⟨i, hi, rfl⟩)) hs⟩, h3⟩
/-- One row's block turns. -/
theorem IsMat.row_set (h : IsMat w gm gs caps rows) {i : Nat} (hi : i < rows.length) (k : Keep (fun b => b = gs i) w w') {qs : List Rat} (hl : qs.length = (rows.getD i []).length) (hr : RRow w' (gs i) (caps i) qs) : IsMat w' gm gs caps (rows.set i qs) := by
  have hne := h.ne hi
  have hty := (h.row hi).ty
  have hN : NoDigits w (fun b => b = gs i) := fun b hb => ⟨113, by rw [hb]; exact hty, by decide⟩
  obtain ⟨cs, hB, h1, h2, h3⟩ := h
  refine ⟨cs, hB.keep k (fun e => hne e.symm), by simp [h1], fun j hj => ?_, by simpa using h3⟩
  simp only [List.length_set] at hj
  by_cases e : i = j
  · subst e
    have e1 : (rows.set i qs).getD i [] = qs := by simp [List.getD, hj]
    rw [e1]
    exact ⟨by rw [hl]; exact (h2 i hj).1, hr⟩
  · have e1 : (rows.set i qs).getD j [] = rows.getD j [] := by simp [List.getD, List.getElem?_set_ne e]
    rw [e1]
    exact ⟨(h2 j hj).1, (h2 j hj).2.keep k (fun h => e (h3 i j hi hj h.symm)) hN⟩
end

/-- An element of a matrix, and the matrix with another one. -/
def mget (rows : List (List Rat)) (i j : Nat) : Rat := (rows.getD i []).getD j 0
def mset (rows : List (List Rat)) (i j : Nat) (q : Rat) : List (List Rat) := rows.set i ((rows.getD i []).set j q)
theorem mset_length (rows : List (List Rat)) (i j : Nat) (q : Rat) : (mset rows i j q).length = rows.length := by simp [mset]
theorem mset_row_length (rows : List (List Rat)) (i j k : Nat) (q : Rat) : ((mset rows i j q).getD k []).length = (rows.getD k []).length := by
  unfold mset
  by_cases h : i = k
  · subst h
    by_cases hi : i < rows.length
    · simp [List.getD, hi]
    · simp [List.getD, hi]
  · simp [List.getD, List.getElem?_set_ne h]
theorem IsMat.put {w : World} {gm : Nat} {gs caps : Nat → Nat} {rows : List (List Rat)} (h : IsMat w gm gs caps rows) {i j : Nat} (hi : i < rows.length) (hj : j < (rows.getD i []).length) {r : R4} {q : Rat} (hr : IsRat w r.val q) :
    IsMat (rput4 w (gs i) (j * 4) r) gm gs caps (mset rows i j q) :=
  h.row_set hi ((Keep.refl (fun b => b = gs i) w).rput4 (.inl rfl) r) (by simp) ((h.row hi).put hj hr)

/-- A load of four cells. -/
theorem run_cell4 {W : World} {g o : Nat} {T : TypeId} {r : R4} {ρ : Operand → Value} {x : Operand} {dst : Option Tmp} {ty : TypeId} {pos : String} {after : Array Edge} {guard : Option (Nat × Bool)}
    (hx : ρ x = .pointer (some ⟨g, o, none⟩)) (h : Cell4 W g o r) (hT : T = 113 ∨ T = 59 := by decide) : (execOp ρ { dst, op := .load T x, type := ty, pos, after, guard }).run Tryz.prog W = .ok (.value r.val) W :=
  run_load4 hx h.1 h.2.1 h.2.2.1 h.2.2.2 hT
theorem run_load105 {W : World} {ad : Addr} {v : Value} {ρ : Operand → Value} {x : Operand} {dst : Option Tmp} {ty : TypeId} {pos : String} {after : Array Edge} {guard : Option (Nat × Bool)}
    (hx : ρ x = .pointer (some ad)) (h : W.cell? ad = some v) : (execOp ρ { dst, op := .load 105 x, type := ty, pos, after, guard }).run Tryz.prog W = .ok (.value v) W := by
  simp [go_sem, execOp, hx, h]
theorem run_index105 {W : World} {g n c k : Nat} {ρ : Operand → Value} {x y : Operand} {dst : Option Tmp} {ty : TypeId} {pos : String} {after : Array Edge} {guard : Option (Nat × Bool)}
    (hx : ρ x = .slice (some ⟨g, 0, none⟩) n c) (hy : ρ y = .int .i64 (k : Int)) (hk : k < n) : (execOp ρ { dst, op := .indexAddr 105 x y, type := ty, pos, after, guard }).run Tryz.prog W = .ok (.value (.pointer (some ⟨g, k * 4, none⟩))) W := by
  simp [go_sem, execOp, hx, hy, hk]
theorem run_index152 {W : World} {g n c k : Nat} {ρ : Operand → Value} {x y : Operand} {dst : Option Tmp} {ty : TypeId} {pos : String} {after : Array Edge} {guard : Option (Nat × Bool)}
    (hx : ρ x = .slice (some ⟨g, 0, none⟩) n c) (hy : ρ y = .int .i64 (k : Int)) (hk : k < n) : (execOp ρ { dst, op := .indexAddr 152 x y, type := ty, pos, after, guard }).run Tryz.prog W = .ok (.value (.pointer (some ⟨g, k, none⟩))) W := by
  simp [go_sem, execOp, hx, hy, hk]

end Go.Proofs.YtncabodphjkkfaaGreat
