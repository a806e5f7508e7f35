/- On which line a point lies. Conditions: none. -/
import Derived.Test.YtncabodphjkkfaaGreatR5
namespace Go.Proofs.YtncabodphjkkfaaGreat
open Go.RowKit Go.Limbs Go.Shelf

/-- The point lies on the line. -/
def onLn (x y : Int) (q : Ln) : Bool := (q.1 == y) && (decide (q.2.1 ≤ x) && decide (x < q.2.2))
/-- The first line on which the point lies; -1: none. -/
def onIdx (J : List Ln) (x y : Int) : Int := Lib.idxBy (fun _ q => onLn x y q) J default

set_option maxRecDepth 100000 in
set_option maxHeartbeats 1000000 in
theorem onLn_any (x y : Int) (q : Ln) (gx gy : Nat) (W : World) (hx : W.cell? ⟨gx, 0, none⟩ = some (.int .i64 x)) (hy : W.cell? ⟨gy, 0, none⟩ = some (.int .i64 y)) (hxl : gx < W.heap.size) (hyl : gy < W.heap.size) :
    Calls Tryz.prog 55 #[.agg #[.int .i64 q.1, .int .i64 q.2.1, .int .i64 q.2.2], .pointer (some ⟨gy, 0, none⟩), .pointer (some ⟨gx, 0, none⟩)] W fun e w' => e = .returned (.bool (onLn x y q)) ∧ Ext W w' := by
  obtain ⟨a, b, c⟩ := q
  simp only [onLn]
  obtain ⟨d1, hd1⟩ : ∃ d, (a == y) = d := ⟨_, rfl⟩
  obtain ⟨d2, hd2⟩ : ∃ d, decide (b ≤ x) = d := ⟨_, rfl⟩
  obtain ⟨d3, hd3⟩ : ∃ d, decide (x < c) = d := ⟨_, rfl⟩
  rw [hd1, hd2, hd3]
  cases d1
  · go_enter Tryz.func55, Tryz.ntmps55
    go_wp2
    go_ret
    exact ⟨rfl, (Below.refl _ _).alloc (Nat.le_refl _) _⟩
  · cases d2
    · go_enter Tryz.func55, Tryz.ntmps55
      go_wp2
      go_ret
      exact ⟨rfl, (Below.refl _ _).alloc (Nat.le_refl _) _⟩
    · go_enter Tryz.func55, Tryz.ntmps55
      go_wp2
      go_ret
      exact ⟨by cases d3 <;> rfl, (Below.refl _ _).alloc (Nat.le_refl _) _⟩

set_option maxRecDepth 100000 in
set_option maxHeartbeats 1000000 in
theorem on_any (x y : Int) (J : List Ln) (v : Value) (gl : Nat) (W : World) (hc : W.cell? ⟨gl, 0, none⟩ = some v) (hgl : gl < W.heap.size) (hv : Lns W v J) (h0 : 0 < J.length) (hm : J.length ≤ 1048576) :
    Calls Tryz.prog 53 #[.int .i64 x, .int .i64 y, .pointer (some ⟨gl, 0, none⟩)] W fun e w' => e = .returned (.int .i64 (onIdx J x y)) ∧ Ext W w' := by
  obtain ⟨A, cap, rfl, hcap, _, hrd⟩ := hv
  obtain ⟨b, off, rfl, hbt, hcells⟩ := hrd (by intro e; have := sqCells_length J; rw [e] at this; simp at this; omega)
  have hE : Ext W ((W.alloc (.cells #[.int .i64 x] 3)).alloc (.cells #[.int .i64 y] 3)) := ((Below.refl _ _).alloc (Nat.le_refl _) _).alloc (by simp) _
  have hBx : Blk ((W.alloc (.cells #[.int .i64 x] 3)).alloc (.cells #[.int .i64 y] 3)) W.heap.size 3 #[.int .i64 x] := (Blk.new' _ _ _ _ rfl).alloc _
  have hBy : Blk ((W.alloc (.cells #[.int .i64 x] 3)).alloc (.cells #[.int .i64 y] 3)) (W.heap.size + 1) 3 #[.int .i64 y] := Blk.new' _ _ _ _ (by simp)
  have eg : ∀ args w, (callFunc 55 args).run Tryz.prog w = .ok (.enter 55 args) w := enters_of Tryz.func55 (by kernel_rfl) rfl
  have hidx := AnyQ.slices_IndexFunc Tryz.idxLn 3 Tryz.isAgg94 Tryz.sizeOf94 sqCells sqCells_three (onLn x y) 55 #[.pointer (some ⟨W.heap.size + 1, 0, none⟩), .pointer (some ⟨W.heap.size, 0, none⟩)] eg b off J.length cap J ((W.alloc (.cells #[.int .i64 x] 3)).alloc (.cells #[.int .i64 y] 3))
    (fun W' q hB => by
      have h := onLn_any x y q W.heap.size (W.heap.size + 1) W' ((hB.cell (p := ⟨W.heap.size, 0, none⟩) hBx.lt).trans (hBx.cell 0)) ((hB.cell (p := ⟨W.heap.size + 1, 0, none⟩) hBy.lt).trans (hBy.cell 0)) (Nat.lt_of_lt_of_le hBx.lt hB.size) (Nat.lt_of_lt_of_le hBy.lt hB.size)
      exact h.mono fun e w' ⟨he, hE'⟩ => ⟨he, hB.trans (hE'.mono hB.size)⟩)
    (Nat.le_refl _) (by omega) (Nat.lt_of_lt_of_le hbt.lt hE.size)
    (fun j hj i u hu => by
      have hi : i < 3 := (List.getElem?_eq_some_iff.1 hu).1
      rw [Nat.add_assoc, hE.cell (p := ⟨b, off + (j * 3 + i), none⟩) hbt.lt, hcells (j * 3 + i) (by rw [sqCells_length]; omega), List.getD, sqCells_get J j i hi hj]
      have e : J[j]! = J.getD j (0, 0, 0) := by rw [getElem!_pos J j hj]; simp [List.getD, hj]
      rw [← e, hu]; rfl)
  change Calls Tryz.prog 54 _ _ _ at hidx
  rw [List.take_length] at hidx
  have HIdx := hide (show Calls Tryz.prog 54 #[.slice (some ⟨b, off, none⟩) J.length cap, .func (.func 55) #[] #[.pointer (some ⟨W.heap.size + 1, 0, none⟩), .pointer (some ⟨W.heap.size, 0, none⟩)]] ((W.alloc (.cells #[.int .i64 x] 3)).alloc (.cells #[.int .i64 y] 3)) fun e w' => e = .returned (.int .i64 (onIdx J x y)) ∧ Ext ((W.alloc (.cells #[.int .i64 x] 3)).alloc (.cells #[.int .i64 y] 3)) w' from hidx)
  have HE := hide hE
  clear hidx hE hBx hBy hcells hrd
  go_enter Tryz.func53, Tryz.ntmps53
  go_wp2_with fail
  refine HIdx.out.mono ?_
  rintro e w' ⟨rfl, E'⟩
  have HE' := hide (HE.out.tr E')
  clear E'
  go_wp2
  go_ret
  exact ⟨rfl, HE'.out⟩

end Go.Proofs.YtncabodphjkkfaaGreat
