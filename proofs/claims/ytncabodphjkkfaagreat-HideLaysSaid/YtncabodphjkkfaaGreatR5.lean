/- The horizontal lines of a cut: the walk. Conditions: at least one square; none is bad. -/
import Derived.Test.YtncabodphjkkfaaGreatR3
namespace Go.Proofs.YtncabodphjkkfaaGreat
open Go.RowKit Go.Limbs Go.Shelf

def linesOf (l : List Sq) : List Ln := l.flatMap fun q => [(q.2.1, q.1, q.1 + q.2.2), (q.2.1 + q.2.2, q.1, q.1 + q.2.2)]
theorem linesOf_length (l : List Sq) : (linesOf l).length = 2 * l.length := by
  induction l with
  | nil => rfl
  | cons q l ih => simp only [linesOf, List.flatMap_cons, List.length_append, List.length_cons, List.length_nil] at *; omega
def joinStep (J : List Ln) (q : Ln) : List Ln :=
  if (sqAt J (J.length - 1)).1 = q.1 ∧ q.2.1 ≤ (sqAt J (J.length - 1)).2.2 then J.set (J.length - 1) ((sqAt J (J.length - 1)).1, (sqAt J (J.length - 1)).2.1, max (sqAt J (J.length - 1)).2.2 q.2.2) else J ++ [q]
def joinTo (s : List Ln) : Nat → List Ln
  | 0 => s.take 1
  | k + 1 => joinStep (joinTo s k) (sqAt s (k + 1))
theorem joinTo_length (s : List Ln) (k : Nat) (h : 0 < s.length) : 1 ≤ (joinTo s k).length ∧ (joinTo s k).length ≤ k + 1 := by
  induction k with
  | zero => simp [joinTo]; omega
  | succ k ih =>
    rw [joinTo, joinStep]
    split
    · rw [List.length_set]; omega
    · rw [List.length_append]; simp; omega

/-- v is a slice of the lines l. -/
def Lns (w : World) (v : Value) (l : List Ln) : Prop :=
  ∃ A cap, v = .slice A l.length cap ∧ l.length ≤ cap ∧ l.length ≤ 1152921504606846976 ∧ Rd w 94 A (l.flatMap sqCells)
theorem Lns.ext {w w' : World} {v : Value} {xs : List Ln} (h : Lns w v xs) (hb : Ext w w') : Lns w' v xs := by
  obtain ⟨A, cap, hv, h1, h2, h4⟩ := h
  exact ⟨A, cap, hv, h1, h2, h4.ext hb⟩
theorem info94 : (Tryz.prog.info? 94).map (fun i => (i.zero, i.size, i.bytes)) = some (some (.agg #[.int .i64 0, .int .i64 0, .int .i64 0]), 3, 24) := by kernel_rfl

/-- Block g begins with the lines J; its places from k + 1 to n are those of s. -/
def JRow (w : World) (g cap n k : Nat) (J s : List Ln) : Prop :=
  ∃ cs : Array Value, Blk w g 94 cs ∧ cs.size = cap * 3 ∧ n ≤ cap ∧ cs.toList.take (J.length * 3) = J.flatMap sqCells ∧ ∀ j, k < j → j < n → ∀ t, t < 3 → cs[j * 3 + t]? = (sqCells (sqAt s j))[t]?
theorem JRow.ext {w w' : World} {g cap n k : Nat} {J s : List Ln} (h : JRow w g cap n k J s) (E : Ext w w') : JRow w' g cap n k J s := by
  obtain ⟨cs, h1, h2, h3, h4, h5⟩ := h
  exact ⟨cs, h1.ext E, h2, h3, h4, h5⟩
theorem JRow.drewN {w : World} {g cap n k : Nat} {J s : List Ln} (h : JRow w g cap n k J s) (q : Nat) : JRow (w.drewN q) g cap n k J s := h
theorem JRow.ty {w : World} {g cap n k : Nat} {J s : List Ln} (h : JRow w g cap n k J s) : TyBlk w g 94 := by
  obtain ⟨cs, h1, _⟩ := h; exact h1.ty
theorem JRow.frozen {w : World} {g cap n k : Nat} {J s : List Ln} (h : JRow w g cap n k J s) (i : Nat) : w.frozen? ⟨g, i, none⟩ = false := by
  obtain ⟨cs, h1, _⟩ := h; exact h1.frozen i
theorem JRow.rest {w : World} {g cap n k : Nat} {J s : List Ln} (h : JRow w g cap n k J s) {j : Nat} (h1 : k < j) (h2 : j < n) :
    w.cell? ⟨g, j * 3, none⟩ = some (.int .i64 (sqAt s j).1) ∧ w.cell? ⟨g, j * 3 + 1, none⟩ = some (.int .i64 (sqAt s j).2.1) ∧ w.cell? ⟨g, j * 3 + 2, none⟩ = some (.int .i64 (sqAt s j).2.2) := by
  obtain ⟨cs, hB, _, _, _, hc⟩ := h
  have c0 := hc j h1 h2 0 (by omega)
  have c1 := hc j h1 h2 1 (by omega)
  have c2 := hc j h1 h2 2 (by omega)
  rw [hB.cell, hB.cell, hB.cell]
  exact ⟨c0, c1, c2⟩
theorem JRow.head {w : World} {g cap n k : Nat} {J s : List Ln} (h : JRow w g cap n k J s) {j : Nat} (hj : j < J.length) :
    w.cell? ⟨g, j * 3, none⟩ = some (.int .i64 (sqAt J j).1) ∧ w.cell? ⟨g, j * 3 + 1, none⟩ = some (.int .i64 (sqAt J j).2.1) ∧ w.cell? ⟨g, j * 3 + 2, none⟩ = some (.int .i64 (sqAt J j).2.2) := by
  obtain ⟨cs, hB, _, _, ht, _⟩ := h
  have key : ∀ t, t < 3 → cs[j * 3 + t]? = (sqCells (sqAt J j))[t]? := fun t ht' => by
    have h1 := sqCells_get J j t ht' hj
    rw [← ht, List.getElem?_take_of_lt (by omega), Array.getElem?_toList] at h1
    exact h1
  rw [hB.cell, hB.cell, hB.cell]
  exact ⟨key 0 (by omega), key 1 (by omega), key 2 (by omega)⟩

theorem Blk.setRow' {w : World} {g : Nat} {t : TypeId} {cs : Array Value} (h : Blk w g t cs) (cs' : Array Value) : Blk (w.setRow g cs') g t cs' := setRow_heap w g cs cs' t _ h
theorem sq_set (rs : List Sq) (k : Nat) (r : Sq) (hk : k < rs.length) (h1 : r.1 = (sqAt rs k).1) (h2 : r.2.1 = (sqAt rs k).2.1) : (rs.set k r).flatMap sqCells = (rs.flatMap sqCells).set (k * 3 + 2) (.int .i64 r.2.2) := by
  induction rs generalizing k with
  | nil => simp at hk
  | cons q l ih =>
    obtain ⟨a, b, c⟩ := q
    obtain ⟨ra, rb, rc⟩ := r
    rcases k with _ | k
    · simp [sqAt, List.getD] at h1 h2
      subst h1 h2
      simp [sqCells, ival, List.flatMap_cons]
    · rw [List.set_cons_succ, List.flatMap_cons, ih k (by simpa using hk) (by simpa [sqAt, List.getD] using h1) (by simpa [sqAt, List.getD] using h2), List.flatMap_cons]
      show [_, _, _] ++ _ = (([_, _, _] : List Value) ++ _).set _ _
      rw [show (k + 1) * 3 + 2 = (k * 3 + 2) + 3 by omega]
      simp
/-- The last line's end is moved. -/
theorem JRow.last {w : World} {g cap n k m : Nat} {J s : List Ln} (h : JRow w g cap n k J s) (hm : m < J.length) (hk : m ≤ k) (t : Int) : JRow (w.setCell ⟨g, m * 3 + 2, none⟩ (.int .i64 t)) g cap n k (J.set m ((sqAt J m).1, (sqAt J m).2.1, t)) s := by
  obtain ⟨cs, hB, h1, h2, h3, h4⟩ := h
  refine ⟨_, hB.set_ _ _, by simp [h1], h2, ?_, fun j hj1 hj2 i hi => ?_⟩
  · rw [List.length_set, sq_set J m ((sqAt J m).1, (sqAt J m).2.1, t) hm rfl rfl, ← h3, Array.toList_setIfInBounds, List.take_set]
  · rw [Array.getElem?_setIfInBounds_ne (by omega)]; exact h4 j hj1 hj2 i hi
/-- A line is put behind the last one. -/
theorem JRow.append {w : World} {g cap n k b : Nat} {J s : List Ln} {q : Ln} {cp : Nat} (h : JRow w g cap n k J s) (hJ : J.length ≤ k + 1) (hk : k + 1 < n) (hb : Blk w b 94 (sqCells q).toArray) (ty : TypeId) :
    ∃ w', (Builtin.append_ #[90, 90] ty #[.slice (some ⟨g, 0, none⟩) J.length cap, .slice (some ⟨b, 0, none⟩) 1 cp]).run Tryz.prog w = .ok (.slice (some ⟨g, 0, none⟩) (J.length + 1) cap) w' ∧ JRow w' g cap n (k + 1) (J ++ [q]) s ∧ Keep (fun x => x = g) w w' := by
  obtain ⟨cs, hB, h1, h2, h3, h4⟩ := h
  obtain ⟨i0, hi, hz0, hz1, hz2⟩ := info_parts info94
  have hlq : (sqCells q).length = 3 := rfl
  have hfit : J.length * i0.size + (sqCells q).length ≤ cs.size := by rw [hz1, hlq, h1]; omega
  have hrun := run_append_room (P := Tryz.prog) w 90 ty 94 i0 Tryz.underlying90 hi g J.length cap cs hB ⟨b, 0, none⟩ 1 cp (sqCells q) (by rw [hz1]; rfl) (fun j u hu => by
    rw [addr_add, hb.cell, Nat.zero_add, List.getElem?_toArray]; exact hu) (sqCells_ones q) (by omega) hfit
  rw [hz1] at hrun
  refine ⟨_, hrun, ⟨_, hB.setRow' _, ?_, h2, ?_, fun j hj1 hj2 t ht => ?_⟩, ⟨rfl, rfl, rfl, by simp [World.setRow], fun i _ hne => setRow_other w g i _ (fun e => hne e)⟩⟩
  · simp [hlq]; omega
  · have hl1 : (cs.toList.take (J.length * 3)).length = J.length * 3 := by simp; omega
    rw [List.length_append, List.flatMap_append, ← h3]
    have e : (cs.toList.take (J.length * 3) ++ sqCells q).length = (J.length + [q].length) * 3 := by rw [List.length_append, hl1, hlq]; simp; omega
    rw [← e, List.take_left]
    simp
  · have hj : J.length * 3 + 3 ≤ j * 3 + t := by omega
    have hl1 : (cs.toList.take (J.length * 3)).length = J.length * 3 := by simp; omega
    rw [List.getElem?_toArray, List.getElem?_append_right (by rw [List.length_append, hl1, hlq]; omega), List.length_append, hl1, hlq, List.getElem?_drop, show J.length * 3 + 3 + (j * 3 + t - (J.length * 3 + 3)) = j * 3 + t by omega]
    rw [← h4 j (by omega) hj2 t ht]
    simp

end Go.Proofs.YtncabodphjkkfaaGreat

namespace Go.Proofs.YtncabodphjkkfaaGreat
open Go.RowKit Go.Limbs Go.Shelf

theorem JRow.up {w : World} {g cap n k : Nat} {J s : List Ln} (h : JRow w g cap n k J s) : JRow w g cap n (k + 1) J s := by
  obtain ⟨cs, h1, h2, h3, h4, h5⟩ := h
  exact ⟨cs, h1, h2, h3, h4, fun j hj => h5 j (by omega)⟩
theorem perm_ne {l s : List Ln} (h : s.Perm l) (hl : 0 < l.length) : 0 < s.length := by rw [h.length_eq]; exact hl

set_option maxRecDepth 100000 in
set_option maxHeartbeats 4000000 in
theorem lines_any (gc : Nat) (vs : Value) (l : List Sq) (cw ch : Value) (w : World) (hB : Blk w gc 98 #[vs, cw, ch]) (hv : Sqs w vs l) (h0 : 0 < l.length) (h24 : l.length ≤ 24) (hnb : ∀ q ∈ l, ¬ sqBad q) :
    Calls Tryz.prog 52 #[.pointer (some ⟨gc, 0, none⟩)] w fun e w' => ∃ u s, e = .returned u ∧ List.Perm s (linesOf l) ∧ SortedBy cmpLn s ∧ Lns w' u (joinTo s (s.length - 1)) ∧ Ext w w' := by
  obtain ⟨A, cap, rfl, hcap, _, hrd⟩ := hv
  have c0 := hB.cell 0
  simp at c0
  have HRd := hide hrd; have HNb := hide hnb
  clear hrd hnb hB
  go_enter Tryz.func52, Tryz.ntmps52
  go_wp2_with fail
  go_loopw [3, 15] (fun o s wr => ∃ (k : Nat), k ≤ l.length ∧ s = .int .i64 (k : Int) ∧ wr.ownsRow w.heap.size 94 3 o (2 * k) ((linesOf (l.take k)).flatMap sqCells) ∧ Ext w wr) (fun _ s _ => l.length - (intOf s).toNat)
  case atStart => exact ⟨0, Nat.zero_le _, rfl, World.ownsRow_nil _ _ _ _, Ext.rfl' _⟩
  case round =>
    obtain ⟨k, hk, rfl, hown, hE⟩ := hrel
    have HOwn := hide hown; have HE := hide hE
    clear hown hE
    obtain ⟨w2, hw2⟩ : ∃ w0, w0 = wr := ⟨_, rfl⟩
    subst hw2
    by_cases hlt : k < l.length
    · obtain ⟨b, off, rfl, hbt, hcells⟩ := Sqs.at HRd.out hlt
      obtain ⟨a0, a1, a2⟩ := hcells k hlt
      obtain ⟨⟨x, y, z⟩, hq⟩ : ∃ q, l.getD k (0, 0, 0) = q := ⟨_, rfl⟩
      rw [hq] at a0 a1 a2
      simp only [] at a0 a1 a2
      have hlk : l[k] = (x, y, z) := by rw [← hq]; simp [List.getD, hlt]
      have hnbk := HNb.out (x, y, z) (by rw [← hlk]; exact List.getElem_mem hlt)
      unfold sqBad at hnbk
      simp only [] at hnbk
      have b0 : w2.cell? ⟨b, off + k * 3, none⟩ = some (.int .i64 x) := (HE.out.cell (p := ⟨b, off + k * 3, none⟩) hbt.lt).trans a0
      have b1 : w2.cell? ⟨b, off + k * 3 + 1, none⟩ = some (.int .i64 y) := (HE.out.cell (p := ⟨b, off + k * 3 + 1, none⟩) hbt.lt).trans a1
      have b2 : w2.cell? ⟨b, off + k * 3 + 2, none⟩ = some (.int .i64 z) := (HE.out.cell (p := ⟨b, off + k * 3 + 2, none⟩) hbt.lt).trans a2
      have i1 : 0 ≤ x := by omega
      have i2 : x ≤ 1000 := by omega
      have i3 : 0 ≤ y := by omega
      have i4 : y ≤ 1000 := by omega
      have i5 : 1 ≤ z := by omega
      have i6 : z ≤ 1000 := by omega
      have hEa : Ext w2 ((w2.alloc (.cells #[.int .i64 x, .int .i64 y, .int .i64 z] 47)).alloc (.cells #[.int .i64 y, .int .i64 x, .int .i64 (x + z), .int .i64 (y + z), .int .i64 x, .int .i64 (x + z)] 94)) := ((Below.refl _ _).alloc (Nat.le_refl _) _).alloc (by simp) _
      have hBz : Blk ((w2.alloc (.cells #[.int .i64 x, .int .i64 y, .int .i64 z] 47)).alloc (.cells #[.int .i64 y, .int .i64 x, .int .i64 (x + z), .int .i64 (y + z), .int .i64 x, .int .i64 (x + z)] 94)) (w2.heap.size + 1) 94 [.int .i64 y, .int .i64 x, .int .i64 (x + z), .int .i64 (y + z), .int .i64 x, .int .i64 (x + z)].toArray := Blk.new' _ _ _ _ (by simp)
      obtain ⟨v', W', hrun, hown', hK'⟩ := own_append (cp := 2) (m := 2) Tryz.underlying90 info94 rfl (by omega) (own_ext HOwn.out hEa) hBz rfl (by intro u hu; simp at hu; rcases hu with rfl | rfl | rfl | rfl | rfl | rfl <;> rfl) (by omega) (by omega) (HE.out.tr hEa).size 90
      have htk : (linesOf (l.take (k + 1))).flatMap sqCells = (linesOf (l.take k)).flatMap sqCells ++ [.int .i64 y, .int .i64 x, .int .i64 (x + z), .int .i64 (y + z), .int .i64 x, .int .i64 (x + z)] := by
        rw [List.take_succ_eq_append_getElem hlt, hlk, linesOf, List.flatMap_append, List.flatMap_append]
        rfl
      have HRun := hide hrun
      have HOwn2 := hide (show W'.ownsRow w.heap.size 94 3 v' (2 * (k + 1)) ((linesOf (l.take (k + 1))).flatMap sqCells) by rw [htk]; exact hown')
      have HE2 := hide (hK'.ext_of (HE.out.tr hEa) (fun b hb => (HOwn.out.lt b hb).1))
      clear hrun hown' hK' htk hBz hEa a0 a1 a2 hq hcells hlk hnbk
      go_wp2_with (at_builtin; refine wpList_append_go rfl (.tmp 19) (.tmp 43) 90 90 rfl rfl rfl HRun.out ?_)
      go_roundw
      case rel => exact ⟨k + 1, by omega, by go_num, HOwn2.out, HE2.out⟩
      case measure => simp [intOf]; omega
    · obtain rfl : k = l.length := by omega
      have hown := HOwn.out
      rw [List.take_length] at hown
      have hll : (linesOf l).length = 2 * l.length := linesOf_length l
      rw [← hll] at hown
      have HSort := hide (sortLn_any _ (linesOf l) w.heap.size w2 hown (by rw [hll]; omega) (by rw [hll]; omega))
      obtain ⟨g, cp, hform, hg1, hg2⟩ := hown.form (by rw [hll]; omega)
      subst hform
      have HLl := hide hll; have HOwn2 := hide hown
      clear hown hll HOwn
      go_wp2_with fail
      refine HSort.out.mono ?_
      rintro e w3 ⟨rfl, s, hperm, hsort, hown3, hk3⟩
      have hsl : s.length = (linesOf l).length := hperm.length_eq
      have hll' := HLl.out
      obtain ⟨N, hn⟩ : ∃ n, (linesOf l).length = n + 1 := ⟨(linesOf l).length - 1, by rw [hll']; omega⟩
      obtain ⟨n, hnN⟩ : ∃ n, N + 1 = n := ⟨_, rfl⟩
      have hn2 : n = 2 * l.length := by rw [← hnN, ← hn]; exact hll'
      rw [hn] at hsl hown3 ⊢
      have hnle : n ≤ 48 := by omega
      have hnpos : 2 ≤ n := by omega
      rw [hnN] at hsl hown3
      have hE3 := hk3.ext_of HE.out (fun b hb => (HOwn2.out.lt b hb).1)
      have hJ : JRow w3 g cp n 0 (joinTo s 0) s ∧ n ≤ cp := by
        rcases hown3.2 with ⟨hv', hn'⟩ | ⟨g', cap', cur, hv', hb, hg, hnc, hcm, hcs, htk⟩
        · cases hv'
        · obtain ⟨rfl, rfl⟩ : g = g' ∧ cp = cap' := by
            injection hv' with e1 e2 e3
            injection e1 with e1; injection e1 with e1
            exact ⟨e1, e3⟩
          rw [hsl] at hnc htk
          refine ⟨⟨cur, hg, hcs, hnc, ?_, fun j hj1 hj2 t ht => ?_⟩, hnc⟩
          · have h1 : (s.take 1).length = 1 := by rw [List.length_take]; omega
            show List.take ((s.take 1).length * 3) cur.toList = (s.take 1).flatMap sqCells
            rw [h1]
            have h2 := congrArg (List.take 3) htk
            rw [List.take_take, Nat.min_eq_left (by omega)] at h2
            rw [show 1 * 3 = 3 from rfl, h2]
            match s, hsl with
            | q :: r, _ => simp [List.flatMap_cons, sqCells]
            | [], h => simp at h; omega
          · have h2 := sqCells_get s j t ht (by omega)
            rw [← htk, List.getElem?_take_of_lt (by omega), Array.getElem?_toList] at h2
            exact h2
      obtain ⟨hJ, hncp⟩ := hJ
      have HJ := hide hJ; have HPerm := hide hperm; have HSorted := hide hsort; have HE3 := hide hE3; have HSl := hide hsl
      have hs0 : 0 < s.length := by omega
      clear hJ hperm hsort hown3 hk3 hE3 HSort
      have hncp2 : 1 ≤ cp := by omega
      have hncp4 : N + 1 ≤ cp := by omega
      have t9 : ¬ cp = 1 := by omega
      have HNn := hide hnN; have HN2 := hide hn2; have HN3 := hide hn; have HLl2 := hide hll'
      clear hnN hn2 hn hll'
      go_wp2_with fail
      go_loopw [6, 53] (fun s6 s53 wr => ∃ (k : Nat), k ≤ N ∧ s6 = .slice (some ⟨g, 0, none⟩) (joinTo s k).length cp ∧ s53 = .int .i64 (k : Int) ∧ JRow wr g cp n k (joinTo s k) s ∧ Ext w wr) (fun _ s53 _ => N - (intOf s53).toNat)
      case atStart =>
        have h1 : (joinTo s 0).length = 1 := by show (s.take 1).length = 1; rw [List.length_take]; omega
        exact ⟨0, Nat.zero_le _, by rw [h1], rfl, HJ.out, HE3.out⟩
      case round =>
        obtain ⟨k, hk, rfl, rfl, hJ, hE⟩ := hrel
        have HJk := hide hJ; have HEk := hide hE
        clear hJ hE
        obtain ⟨w4, hw4⟩ : ∃ w0, w0 = wr := ⟨_, rfl⟩
        subst hw4
        obtain ⟨hJ1, hJ2⟩ := joinTo_length s k hs0
        obtain ⟨J, hJe⟩ : ∃ J, joinTo s k = J := ⟨_, rfl⟩
        rw [hJe] at HJk hJ1 hJ2 ⊢
        have HJe := hide hJe
        clear hJe
        obtain ⟨M, hM⟩ : ∃ M, J.length = M + 1 := ⟨J.length - 1, by omega⟩
        by_cases hlt : k < N
        · have hkn : k + 1 < n := by have := HNn.out; omega
          obtain ⟨c0, c1, c2⟩ := HJk.out.rest (j := k + 1) (by omega) hkn
          obtain ⟨d0, d1, d2⟩ := HJk.out.head (j := M) (by omega)
          have hq0 : sqAt J (J.length - 1) = sqAt J M := by rw [hM]; rfl
          obtain ⟨⟨ly, lf, lt⟩, hq⟩ : ∃ q, sqAt s (k + 1) = q := ⟨_, rfl⟩
          obtain ⟨⟨jy, jf, jt⟩, hj⟩ : ∃ q, sqAt J M = q := ⟨_, rfl⟩
          rw [hq] at c0 c1 c2
          rw [hj] at d0 d1 d2
          simp only [] at c0 c1 c2 d0 d1 d2
          rw [show (k + 1) * 3 = 3 + k * 3 by omega] at c0 c1 c2
          have gl := HJk.out.ty.lt
          have hMk : M ≤ k := by omega
          have HQ := hide hq; have HJq := hide hj; have HQ0 := hide hq0
          have HM := hide hM
          rw [hM]
          have hMi : (((M + 1 : Nat)) : Int) - 1 = (M : Int) := by omega
          have hMi2 : ((M : Int) + 1) - 1 = (M : Int) := by omega
          clear hq hj hq0 hM hJ1 hJ2
          go_wp2_with fail
          have hEb : Ext w4 (w4.alloc (.cells #[.int .i64 ly, .int .i64 lf, .int .i64 lt] 94)) := (Below.refl _ _).alloc (Nat.le_refl _) _
          obtain ⟨gb, hgb⟩ : ∃ x, w4.heap.size = x := ⟨_, rfl⟩
          have hBb : Blk (w4.alloc (.cells #[.int .i64 ly, .int .i64 lf, .int .i64 lt] 94)) gb 94 #[.int .i64 ly, .int .i64 lf, .int .i64 lt] := Blk.new' _ _ _ _ hgb.symm
          have HJ5 := hide (HJk.out.ext hEb)
          have HE5 := hide (HEk.out.tr hEb)
          have n1 : ¬ gb = g := by omega
          have n2 : ¬ g = gb := by omega
          replace d0 := (hEb.cell (p := ⟨g, M * 3, none⟩) gl).trans d0
          replace d1 := (hEb.cell (p := ⟨g, M * 3 + 1, none⟩) gl).trans d1
          replace d2 := (hEb.cell (p := ⟨g, M * 3 + 2, none⟩) gl).trans d2
          rw [hgb]
          generalize w4.alloc (.cells #[.int .i64 ly, .int .i64 lf, .int .i64 lt] 94) = w5 at hBb HJ5 HE5 d0 d1 d2 hEb ⊢
          have q0 := hBb.cell 0
          have q1 := hBb.cell 1
          have q2 := hBb.cell 2
          simp at q0 q1 q2
          have fz := HJ5.out.frozen (M * 3 + 2)
          clear hEb hgb hBb c0 c1 c2 gl hMi hMi2
          by_cases hy : jy = ly
          · subst hy
            by_cases hf : lf ≤ jt
            · have t1 : decide (lf ≤ jt) = true := by simpa using hf
              have hf' := hf
              have HFj0 := hide hf'
              clear hf hf'
              go_wp2_with fail
              go_quiet (fail)
              go_wp2_with fail
              go_region
              have hl := HJ5.out.last (m := M) (by have := HM.out; omega) hMk (max jt lt)
              rw [HJq.out] at hl
              have HL := hide (show JRow ((w5.drewN (nq + 1)).setCell ⟨g, M * 3 + 2, none⟩ (.int .i64 (max jt lt))) g cp n k (J.set M (jy, jf, max jt lt)) s from hl)
              have HEl := hide (show Ext w ((w5.drewN (nq + 1)).setCell ⟨g, M * 3 + 2, none⟩ (.int .i64 (max jt lt))) from (below_drewN HE5.out _).setCell (p := ⟨g, M * 3 + 2, none⟩) hg1 _)
              have HFj := HFj0
              clear hl
              go_wp2_with fail
              go_roundw
              case rel =>
                have hst : joinTo s (k + 1) = J.set M (jy, jf, max jt lt) := by
                  show joinStep (joinTo s k) (sqAt s (k + 1)) = _
                  rw [HJe.out, HQ.out, joinStep, HQ0.out, HJq.out, if_pos (by show jy = jy ∧ lf ≤ jt; exact ⟨rfl, HFj.out⟩)]
                  rw [show J.length - 1 = M by have := HM.out; omega]
                refine ⟨k + 1, by omega, ?_, by go_num, by rw [hst]; exact HL.out.up, HEl.out⟩
                rw [hst, List.length_set, HM.out]
              case measure => simp [intOf]; omega
            · have t1 : decide (lf ≤ jt) = false := by simpa using hf
              have HCase := hide (show ¬ (jy = jy ∧ lf ≤ jt) from fun h => hf h.2)
              clear hf
              go_wp2_with fail
              go_quiet (fail)
              have hEq : Ext w5 (w5.drewN nq) := below_drewN (Below.refl _ _) _
              have hEs : Ext w5 ((w5.drewN nq).alloc (.cells #[.int .i64 jy, .int .i64 lf, .int .i64 lt] 94)) := hEq.tr ((Below.refl _ _).alloc (Nat.le_refl _) _)
              have hBs : Blk ((w5.drewN nq).alloc (.cells #[.int .i64 jy, .int .i64 lf, .int .i64 lt] 94)) w5.heap.size 94 (sqCells (jy, lf, lt)).toArray := Blk.new' _ _ _ _ rfl
              have hJl : J.length ≤ k + 1 := by have := HM.out; omega
              obtain ⟨w6, hrun, hJ6, hK6⟩ := (HJ5.out.ext hEs).append (cp := 1) hJl hkn hBs 90
              rw [HM.out] at hrun
              have HRun := hide hrun; have HJ6 := hide hJ6
              have HE6 := hide (hK6.ext_of (HE5.out.tr hEs) (fun i hi => by rw [hi]; exact hg1))
              clear hrun hJ6 hK6 hEs hEq hBs hJl
              go_wp2_with (at_builtin; refine wpList_append_go rfl (.tmp 88) (.tmp 90) 90 90 rfl rfl rfl HRun.out ?_)
              go_roundw
              case rel =>
                have hst : joinTo s (k + 1) = J ++ [(jy, lf, lt)] := by
                  show joinStep (joinTo s k) (sqAt s (k + 1)) = _
                  rw [HJe.out, HQ.out, joinStep, HQ0.out, HJq.out, if_neg (by show ¬ (jy = jy ∧ lf ≤ jt); first | exact HCase.out | (intro h; exact HCase.out ⟨trivial, h.2⟩))]
                refine ⟨k + 1, by omega, ?_, by go_num, by rw [hst]; exact HJ6.out, HE6.out⟩
                rw [hst, List.length_append, HM.out]; rfl
              case measure => simp [intOf]; omega
          · have t1 : (jy == ly) = false := by simpa using hy
            have HCase := hide (show ¬ (jy = ly ∧ lf ≤ jt) from fun h => hy h.1)
            clear hy
            go_wp2_with fail
            go_quiet (fail)
            have hEq : Ext w5 (w5.drewN nq) := below_drewN (Below.refl _ _) _
            have hEs : Ext w5 ((w5.drewN nq).alloc (.cells #[.int .i64 ly, .int .i64 lf, .int .i64 lt] 94)) := hEq.tr ((Below.refl _ _).alloc (Nat.le_refl _) _)
            have hBs : Blk ((w5.drewN nq).alloc (.cells #[.int .i64 ly, .int .i64 lf, .int .i64 lt] 94)) w5.heap.size 94 (sqCells (ly, lf, lt)).toArray := Blk.new' _ _ _ _ rfl
            have hJl : J.length ≤ k + 1 := by have := HM.out; omega
            obtain ⟨w6, hrun, hJ6, hK6⟩ := (HJ5.out.ext hEs).append (cp := 1) hJl hkn hBs 90
            rw [HM.out] at hrun
            have HRun := hide hrun; have HJ6 := hide hJ6
            have HE6 := hide (hK6.ext_of (HE5.out.tr hEs) (fun i hi => by rw [hi]; exact hg1))
            clear hrun hJ6 hK6 hEs hEq hBs hJl
            go_wp2_with (at_builtin; refine wpList_append_go rfl (.tmp 88) (.tmp 90) 90 90 rfl rfl rfl HRun.out ?_)
            go_roundw
            case rel =>
              have hst : joinTo s (k + 1) = J ++ [(ly, lf, lt)] := by
                show joinStep (joinTo s k) (sqAt s (k + 1)) = _
                rw [HJe.out, HQ.out, joinStep, HQ0.out, HJq.out, if_neg (by show ¬ (jy = ly ∧ lf ≤ jt); first | exact HCase.out | (intro h; exact HCase.out ⟨trivial, h.2⟩))]
              refine ⟨k + 1, by omega, ?_, by go_num, by rw [hst]; exact HJ6.out, HE6.out⟩
              rw [hst, List.length_append, HM.out]; rfl
            case measure => simp [intOf]; omega
        · obtain rfl : N = k := by omega
          have hs1 : s.length - 1 = N := by have := HNn.out; have := HSl.out; omega
          have hLn : Lns w4 (.slice (some ⟨g, 0, none⟩) J.length cp) J := by
            obtain ⟨cs, hB, h1, h2, h3, h4⟩ := HJk.out
            have hjn : J.length ≤ n := by have := HNn.out; omega
            refine ⟨_, cp, rfl, by omega, by omega, Rd.of_blk hB 0 _ (fun j hj => ?_)⟩
            rw [sqCells_length] at hj
            rw [Nat.zero_add, ← h3, List.getElem?_take_of_lt hj, Array.getElem?_toList]
          have HLn := hide hLn; have HS1 := hide hs1
          clear hLn hs1 hM hJ1 hJ2
          go_wp2
          go_ret
          exact ⟨_, s, rfl, HPerm.out, HSorted.out, by rw [HS1.out, HJe.out]; exact HLn.out, HEk.out⟩

end Go.Proofs.YtncabodphjkkfaaGreat
