/- How the program's numbers lie in memory: a slice of 32-bit digits, an integer, a fraction. Conditions: none. -/
import Derived.Test.YtncabodphjkkfaaGreatRows
import Derived.WalkKit
import Derived.WalkSpells
import Derived.WalkLawsBesides
import Derived.Test.YtncabodphjkkfaaGreatLimbs
import Derived.Test.YtncabodphjkkfaaGreatApp
namespace Go.Proofs.YtncabodphjkkfaaGreat
open Go.RowKit Go.Limbs

theorem hide {p : Prop} (h : p) : Hid p := h

/-- Everything that is in w is in w' as it was. -/
abbrev Ext (w w' : World) : Prop := Below w.heap.size w w'

theorem Ext.rfl' (w : World) : Ext w w := Below.refl _ _
theorem Ext.tr {a b c : World} (h : Ext a b) (k : Ext b c) : Ext a c := h.trans (k.mono h.size)
theorem below_drewN {B : Nat} {a w : World} (h : Below B a w) (n : Nat) : Below B a (w.drewN n) := ⟨h.os, h.tape, h.output, h.size, h.block⟩

/-- Block b is a row of cells of element type T. -/
def TyBlk (w : World) (b : Nat) (T : TypeId) : Prop := ∃ cs fr, w.heap[b]? = some (.cells cs T fr)
theorem TyBlk.lt {w : World} {b : Nat} {T : TypeId} (h : TyBlk w b T) : b < w.heap.size := by
  obtain ⟨cs, fr, h⟩ := h
  rcases Nat.lt_or_ge b w.heap.size with hlt | hge
  · exact hlt
  · rw [Array.getElem?_eq_none hge] at h; cases h
theorem TyBlk.below {w w' : World} {b B : Nat} {T : TypeId} (h : TyBlk w b T) (hb : Below B w w') (hB : b < B) : TyBlk w' b T := by
  obtain ⟨cs, fr, h⟩ := h; exact ⟨cs, fr, (hb.block b hB).trans h⟩
theorem TyBlk.ne {w : World} {b g : Nat} {T T' : TypeId} (h : TyBlk w b T) (h' : TyBlk w g T') (hne : T ≠ T') : b ≠ g := by
  rintro rfl
  obtain ⟨cs, fr, h⟩ := h
  obtain ⟨cs', fr', h'⟩ := h'
  rw [h] at h'; injection h' with h'; injection h' with _ h'; exact hne h'
theorem TyBlk.setCell {w : World} {b : Nat} {T : TypeId} (h : TyBlk w b T) (p : Addr) (u : Value) : TyBlk (w.setCell p u) b T := by
  obtain ⟨cs, fr, h⟩ := h
  by_cases hb : p.block = b
  · subst hb
    exact ⟨_, fr, by simp [World.setCell, Array.getElem?_modify, h]; rfl⟩
  · exact ⟨cs, fr, (Below.heap_setCell w p u b (Ne.symm hb)).trans h⟩

/-- A slice of cells, read only, of element type T: where there is a cell, its address and its cells. -/
def Rd (w : World) (T : TypeId) (A : Option Addr) (xs : List Value) : Prop :=
  xs ≠ [] → ∃ b off, A = some ⟨b, off, none⟩ ∧ TyBlk w b T ∧ ∀ j, j < xs.length → w.cell? ⟨b, off + j, none⟩ = some (xs.getD j undef)

theorem Rd.nil {w : World} {T : TypeId} {A : Option Addr} : Rd w T A [] := fun h => absurd rfl h
theorem Rd.ext {w w' : World} {T : TypeId} {A : Option Addr} {xs : List Value} (h : Rd w T A xs) (hb : Ext w w') : Rd w' T A xs := fun hne => by
  obtain ⟨b, off, hA, hlt, hc⟩ := h hne
  exact ⟨b, off, hA, hlt.below hb hlt.lt, fun j hj => (hb.cell (p := ⟨b, off + j, none⟩) hlt.lt).trans (hc j hj)⟩
/-- A store into a block of another element type. -/
theorem Rd.store {w : World} {T T' : TypeId} {A : Option Addr} {xs : List Value} (h : Rd w T A xs) {p : Addr} (hp : TyBlk w p.block T') (hne : T ≠ T') (u : Value) : Rd (w.setCell p u) T A xs := fun hx => by
  obtain ⟨b, off, hA, hlt, hc⟩ := h hx
  have hbp : b ≠ p.block := hlt.ne hp hne
  exact ⟨b, off, hA, hlt.setCell p u, fun j hj => (World.cell?_of_block (w := w) (a := ⟨b, off + j, none⟩) (Below.heap_setCell w p u b hbp)).trans (hc j hj)⟩

def u32 (n : Nat) : Value := .int .u32 (n : Int)

/-- v is a slice of 32-bit digits. -/
def U32 (w : World) (v : Value) (zs : List Nat) : Prop :=
  ∃ A cap, v = .slice A zs.length cap ∧ zs.length ≤ cap ∧ zs.length ≤ 1152921504606846976 ∧ (∀ z ∈ zs, z < 4294967296) ∧ Rd w 163 A (zs.map u32)

theorem U32.ext {w w' : World} {v : Value} {zs : List Nat} (h : U32 w v zs) (hb : Ext w w') : U32 w' v zs := by
  obtain ⟨A, cap, hv, h1, h2, h3, h4⟩ := h
  exact ⟨A, cap, hv, h1, h2, h3, h4.ext hb⟩
theorem U32.store {w : World} {v : Value} {zs : List Nat} {T' : TypeId} (h : U32 w v zs) {p : Addr} (hp : TyBlk w p.block T') (hne : 163 ≠ T') (u : Value) : U32 (w.setCell p u) v zs := by
  obtain ⟨A, cap, hv, h1, h2, h3, h4⟩ := h
  exact ⟨A, cap, hv, h1, h2, h3, h4.store hp hne u⟩

/-- One cell of digits. -/
theorem U32.at {w : World} {A : Option Addr} {zs : List Nat} (h : Rd w 163 A (zs.map u32)) {k : Nat} (hk : k < zs.length) :
    ∃ b off, A = some ⟨b, off, none⟩ ∧ TyBlk w b 163 ∧ ∀ j, j < zs.length → w.cell? ⟨b, off + j, none⟩ = some (.int .u32 (zs.getD j 0 : Nat)) := by
  obtain ⟨b, off, hA, hb, hc⟩ := h (by intro e; simp at e; subst e; simp at hk)
  refine ⟨b, off, hA, hb, fun j hj => ?_⟩
  rw [hc j (by simpa using hj)]
  simp [List.getD, hj, u32]

/-- v is the size n. -/
def Mag (w : World) (v : Value) (n : Nat) : Prop := U32 w v (limbs n)
theorem Mag.one {w : World} {v : Value} {n : Nat} (h : Mag w v n) : v.oneCell' = true := by
  obtain ⟨A, cap, rfl, _⟩ := h; rfl
theorem Mag.ext {w w' : World} {v : Value} {n : Nat} (h : Mag w v n) (hb : Ext w w') : Mag w' v n := U32.ext h hb
theorem Mag.store {w : World} {v : Value} {n : Nat} {T' : TypeId} (h : Mag w v n) {p : Addr} (hp : TyBlk w p.block T') (hne : 163 ≠ T') (u : Value) : Mag (w.setCell p u) v n := U32.store h hp hne u

/-- The walk's rule for a store of a value of one cell. -/
theorem st_any {v : Value} (h : v.oneCell' = true) : ∀ (P : Program) (W : World) (a : Addr) (m : Mode), (store a v m).run P W = stored P W a v m := fun P W a m => run_store P W a v m h

/-- v is the integer i: its sign and its size. -/
def IsInt (w : World) (v : Value) (i : Int) : Prop := ∃ s, v = .agg #[.bool (decide (i < 0)), s] ∧ Mag w s i.natAbs
theorem IsInt.ext {w w' : World} {v : Value} {i : Int} (h : IsInt w v i) (hb : Ext w w') : IsInt w' v i := by
  obtain ⟨s, hv, hs⟩ := h; exact ⟨s, hv, hs.ext hb⟩

theorem IsInt.store {w : World} {v : Value} {i : Int} {T' : TypeId} (h : IsInt w v i) {p : Addr} (hp : TyBlk w p.block T') (hne : 163 ≠ T') (u : Value) : IsInt (w.setCell p u) v i := by
  obtain ⟨s, hv, hs⟩ := h; exact ⟨s, hv, hs.store hp hne u⟩

/-- v is the fraction q, in lowest terms. -/
def IsRat (w : World) (v : Value) (q : Rat) : Prop :=
  ∃ s t, v = .agg #[.bool (decide (q.num < 0)), s, .bool false, t] ∧ Mag w s q.num.natAbs ∧ Mag w t q.den
theorem IsRat.ext {w w' : World} {v : Value} {q : Rat} (h : IsRat w v q) (hb : Ext w w') : IsRat w' v q := by
  obtain ⟨s, t, hv, hs, ht⟩ := h; exact ⟨s, t, hv, hs.ext hb, ht.ext hb⟩

theorem IsRat.store {w : World} {v : Value} {q : Rat} {T' : TypeId} (h : IsRat w v q) {p : Addr} (hp : TyBlk w p.block T') (hne : 163 ≠ T') (u : Value) : IsRat (w.setCell p u) v q := by
  obtain ⟨s, t, hv, hs, ht⟩ := h; exact ⟨s, t, hv, hs.store hp hne u, ht.store hp hne u⟩

/-- A block that is known whole. -/
def Blk (w : World) (g : Nat) (t : TypeId) (cs : Array Value) : Prop := w.heap[g]? = some (.cells cs t (0, 0))
section
variable {w w' : World} {g : Nat} {t : TypeId} {cs : Array Value}
theorem Blk.lt (h : Blk w g t cs) : g < w.heap.size := by
  rcases Nat.lt_or_ge g w.heap.size with hlt | hge
  · exact hlt
  · unfold Blk at h; rw [Array.getElem?_eq_none hge] at h; cases h
theorem Blk.cell (h : Blk w g t cs) (i : Nat) : w.cell? ⟨g, i, none⟩ = cs[i]? := cell_of_row w g i cs t (0, 0) h
theorem Blk.frozen (h : Blk w g t cs) (i : Nat) : w.frozen? ⟨g, i, none⟩ = false := by
  unfold Blk at h; simp [World.frozen?, h]
theorem Blk.new (w : World) (t : TypeId) (cs : Array Value) : Blk (w.alloc (.cells cs t)) w.heap.size t cs := heap_alloc_new w _
theorem Blk.new' (W : World) (t : TypeId) (cs : Array Value) (g : Nat) (hg : g = W.heap.size) : Blk (W.alloc (.cells cs t)) g t cs := by rw [hg]; exact Blk.new _ _ _
theorem Blk.drew (h : Blk w g t cs) : Blk w.drew g t cs := h
theorem Blk.drewN (h : Blk w g t cs) (n : Nat) : Blk (w.drewN n) g t cs := h
theorem Blk.alloc (h : Blk w g t cs) (o : Obj) : Blk (w.alloc o) g t cs := (Below.heap_alloc w o g h.lt).trans h
theorem Blk.set_ (h : Blk w g t cs) (i : Nat) (u : Value) : Blk (w.setCell ⟨g, i, none⟩ u) g t (cs.setIfInBounds i u) := by
  unfold Blk at h ⊢
  simp [World.setCell, Array.getElem?_modify, h]
theorem Blk.far (h : Blk w g t cs) {p : Addr} (hp : g ≠ p.block) (u : Value) : Blk (w.setCell p u) g t cs := (Below.heap_setCell w p u g hp).trans h
theorem Blk.ext (h : Blk w g t cs) (hb : Ext w w') : Blk w' g t cs := (hb.block g h.lt).trans h
theorem Blk.below {B : Nat} (h : Blk w g t cs) (hb : Below B w w') (hg : g < B) : Blk w' g t cs := (hb.block g hg).trans h
end

theorem Blk.ty {w : World} {g : Nat} {t : TypeId} {cs : Array Value} (h : Blk w g t cs) : TyBlk w g t := ⟨cs, _, h⟩
/-- The cells that lie in a block known whole. -/
theorem Rd.of_blk {w : World} {g : Nat} {t : TypeId} {cs : Array Value} (h : Blk w g t cs) (off : Nat) (xs : List Value) (hx : ∀ j, j < xs.length → cs[off + j]? = xs[j]?) :
    Rd w t (some ⟨g, off, none⟩) xs := fun _ => ⟨g, off, rfl, h.ty, fun j hj => by rw [h.cell, hx j hj]; simp [List.getD, hj]⟩

/-- A result that lies in a block: what the function hands back. -/
theorem res2_run {fn : Func} {d : Tmp} {T : TypeId} {tmps : Array Value} {W : World} {g : Nat} {x y : Value} (hr : fn.results = #[.cell d T]) (ht : tmps.getD d undef = .pointer (some ⟨g, 0, none⟩))
    (hB : Blk W g T #[x, y]) (hT : T = 110 ∨ T = 57 := by decide) : (results fn tmps).run Tryz.prog W = .ok (.agg #[x, y]) W := by
  have c0 := hB.cell 0
  have c1 := hB.cell 1
  simp at c0 c1 ht
  rcases hT with rfl | rfl <;> simp [results, hr, ht, go_sem, c0, c1]
theorem res4_run {fn : Func} {d : Tmp} {T : TypeId} {tmps : Array Value} {W : World} {g : Nat} {x y z u : Value} (hr : fn.results = #[.cell d T]) (ht : tmps.getD d undef = .pointer (some ⟨g, 0, none⟩))
    (hB : Blk W g T #[x, y, z, u]) (hT : T = 113 ∨ T = 59 := by decide) : (results fn tmps).run Tryz.prog W = .ok (.agg #[x, y, z, u]) W := by
  have c0 := hB.cell 0
  have c1 := hB.cell 1
  have c2 := hB.cell 2
  have c3 := hB.cell 3
  simp at c0 c1 c2 c3 ht
  rcases hT with rfl | rfl <;> simp [results, hr, ht, go_sem, c0, c1, c2, c3]

/-- A load of one cell, of two, of four. -/
theorem run_load1 {W : World} {ad : Addr} {T : TypeId} {v : Value} {ρ : Operand → Value} {x : Operand} {dst : Option Tmp} {ty : TypeId} {pos : String} {after : Array Edge} {guard : Option (Nat × Bool)}
    (hx : ρ x = .pointer (some ad)) (h : W.cell? ad = some v) (hT : T = 3 ∨ T = 4 ∨ T = 108 ∨ T = 163 ∨ T = 22 ∨ T = 23 := by decide) :
    (execOp ρ { dst, op := .load T x, type := ty, pos, after, guard }).run Tryz.prog W = .ok (.value v) W := by
  rcases hT with rfl | rfl | rfl | rfl | rfl | rfl <;> simp [go_sem, execOp, hx, h]
theorem run_load2 {W : World} {g o : Nat} {T : TypeId} {v0 v1 : Value} {ρ : Operand → Value} {x : Operand} {dst : Option Tmp} {ty : TypeId} {pos : String} {after : Array Edge} {guard : Option (Nat × Bool)}
    (hx : ρ x = .pointer (some ⟨g, o, none⟩)) (h0 : W.cell? ⟨g, o, none⟩ = some v0) (h1 : W.cell? ⟨g, o + 1, none⟩ = some v1) (hT : T = 110 ∨ T = 57 ∨ T = 40 := by decide) :
    (execOp ρ { dst, op := .load T x, type := ty, pos, after, guard }).run Tryz.prog W = .ok (.value (.agg #[v0, v1])) W := by
  rcases hT with rfl | rfl | rfl <;> simp [go_sem, execOp, hx, h0, h1]
theorem run_load4 {W : World} {g o : Nat} {T : TypeId} {v0 v1 v2 v3 : Value} {ρ : Operand → Value} {x : Operand} {dst : Option Tmp} {ty : TypeId} {pos : String} {after : Array Edge} {guard : Option (Nat × Bool)}
    (hx : ρ x = .pointer (some ⟨g, o, none⟩)) (h0 : W.cell? ⟨g, o, none⟩ = some v0) (h1 : W.cell? ⟨g, o + 1, none⟩ = some v1) (h2 : W.cell? ⟨g, o + 2, none⟩ = some v2) (h3 : W.cell? ⟨g, o + 3, none⟩ = some v3)
    (hT : T = 113 ∨ T = 59 := by decide) : (execOp ρ { dst, op := .load T x, type := ty, pos, after, guard }).run Tryz.prog W = .ok (.value (.agg #[v0, v1, v2, v3])) W := by
  rcases hT with rfl | rfl <;> simp [go_sem, execOp, hx, h0, h1, h2, h3]

/-- Only block g, and what is new, may have turned. -/
theorem grown_refl (w : World) (row : Option Nat) : w.grownBy w row := ⟨rfl, rfl, rfl, Nat.le_refl _, fun _ _ _ => rfl⟩
theorem grown_trans {a b c : World} {row : Option Nat} (h : a.grownBy b row) (k : b.grownBy c row) : a.grownBy c row :=
  ⟨k.os.trans h.os, k.tape.trans h.tape, k.output.trans h.output, Nat.le_trans h.size k.size, fun i hi hne => (k.block i (Nat.lt_of_lt_of_le hi h.size) hne).trans (h.block i hi hne)⟩
theorem grown_drewN {a w : World} {row : Option Nat} (h : a.grownBy w row) (n : Nat) : a.grownBy (w.drewN n) row := ⟨h.os, h.tape, h.output, h.size, h.block⟩
theorem grown_drew {a w : World} {row : Option Nat} (h : a.grownBy w row) : a.grownBy w.drew row := ⟨h.os, h.tape, h.output, h.size, h.block⟩
theorem grown_set {a w : World} {g : Nat} (h : a.grownBy w (some g)) (off : Nat) (u : Value) : a.grownBy (w.setCell ⟨g, off, none⟩ u) (some g) :=
  ⟨h.os, h.tape, h.output, by simpa [World.setCell] using h.size, fun i hi hne => (Below.heap_setCell w _ u i (by rintro rfl; exact hne rfl)).trans (h.block i hi hne)⟩
theorem grown_cell {a w : World} {g : Nat} (h : a.grownBy w (some g)) {b off : Nat} (hb : b < a.heap.size) (hne : b ≠ g) : w.cell? ⟨b, off, none⟩ = a.cell? ⟨b, off, none⟩ :=
  World.cell?_of_block (w := a) (a := ⟨b, off, none⟩) (h.block b hb (fun e => hne (by injection e)))

theorem addr_add (b off j : Nat) : (⟨b, off, none⟩ : Addr).add j = ⟨b, off + j, none⟩ := by
  unfold Addr.add; split <;> simp_all
/-- A source of an append. -/
theorem Rd.reads {w : World} {T : TypeId} {A : Option Addr} {xs : List Value} (h : Rd w T A xs) (size n : Nat) (hn : xs.length = n * size) (hs : 0 < size) : App.Reads w w.heap.size size A n xs := by
  refine ⟨hn, fun hpos => ?_⟩
  obtain ⟨b, off, rfl, ht, hc⟩ := h (fun e => by
    have h1 : 0 < n * size := Nat.mul_pos hpos hs
    rw [← hn, e] at h1; simp at h1)
  refine ⟨_, rfl, ht.lt, fun j u hu => ?_⟩
  have hj := (List.getElem?_eq_some_iff.1 hu).1
  rw [addr_add, hc j hj, List.getD, hu]; rfl
/-- What the call owns reads as its cells. -/
theorem Rd.of_own {w : World} {base : Nat} {T : TypeId} {size n : Nat} {A : Option Addr} {cap : Nat} {xs : List Value} (h : w.ownsRow base T size (.slice A n cap) n xs) : Rd w T A xs := by
  intro hne
  rcases h.2 with ⟨hv, hn⟩ | ⟨g, cap', cur, hv, hb, hg, hnc, hcm, hcs, htk⟩
  · have := h.1; rw [hn] at this; simp at this; exact absurd this hne
  · injection hv with hA _ _
    refine ⟨g, 0, hA, ⟨cur, _, hg⟩, fun j hj => ?_⟩
    rw [cell_of_row w g (0 + j) cur T (0, 0) hg, Nat.zero_add]
    have h1 : j < cur.toList.length := by
      have := h.1
      rw [← htk] at hj
      have h2 := List.length_take_le (n * size) cur.toList
      have h3 : (cur.toList.take (n * size)).length ≤ cur.toList.length := by simp; omega
      omega
    have h2 : xs[j]? = cur.toList[j]? := by
      rw [← htk, List.getElem?_take_of_lt]
      have := h.1
      omega
    rw [List.getD, h2]
    have : j < cur.size := by simpa using h1
    simp [this]
theorem own_slice {w : World} {base : Nat} {T : TypeId} {size n : Nat} {v : Value} {xs : List Value} (h : w.ownsRow base T size v n xs) : ∃ A cap, v = .slice A n cap ∧ n ≤ cap ∧ cap ≤ maxLen := by
  rcases h.2 with ⟨hv, hn⟩ | ⟨g, cap, cur, hv, hb, hg, hnc, hcm, hcs, htk⟩
  · exact ⟨none, 0, by rw [hv, hn], by omega, by omega⟩
  · exact ⟨_, cap, hv, hnc, hcm⟩
theorem U32.of_own {w : World} {base : Nat} {v : Value} {zs : List Nat} (h : w.ownsRow base 163 1 v zs.length (zs.map u32)) (hl : zs.length ≤ 1152921504606846976) (hz : ∀ z ∈ zs, z < 4294967296) : U32 w v zs := by
  obtain ⟨A, cap, rfl, hc, _⟩ := own_slice h
  exact ⟨A, cap, rfl, hc, hl, hz, Rd.of_own h⟩
theorem u32_one (zs : List Nat) : ∀ u ∈ zs.map u32, u.oneCell' = true := by
  intro u hu
  obtain ⟨_, _, rfl⟩ := List.mem_map.1 hu
  rfl

theorem World.setCell_size (w : World) (a : Addr) (v : Value) : (w.setCell a v).heap.size = w.heap.size := by simp [World.setCell]

end Go.Proofs.YtncabodphjkkfaaGreat
