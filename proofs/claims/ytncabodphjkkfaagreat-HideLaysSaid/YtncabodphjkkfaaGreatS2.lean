/- Squares, and lines, sorted. Conditions: none. -/
import Derived.Test.YtncabodphjkkfaaGreatShelf
import Derived.Test.YtncabodphjkkfaaGreatShelf2
import Derived.Test.YtncabodphjkkfaaGreatH4
import Derived.Sort.Grow
import Derived.Test.YtncabodphjkkfaaGreatH6
import Derived.Test.YtncabodphjkkfaaGreatM1
namespace Go.Proofs.YtncabodphjkkfaaGreat
open Go.RowKit Go.Limbs Go.Shelf Go.Sort

def cmpL : List Int → List Int → Int
  | [], [] => 0
  | [], _ :: _ => -1
  | _ :: _, [] => 1
  | x :: xs, y :: ys => if Lib.compareInt x y = 0 then cmpL xs ys else Lib.compareInt x y

theorem compareInt_zero (x y : Int) : Lib.compareInt x y = 0 ↔ x = y := by
  unfold Lib.compareInt
  by_cases h1 : x < y
  · simp [h1]; omega
  · by_cases h2 : y < x
    · simp [h1, h2]; omega
    · simp [h1, h2]; omega

set_option maxHeartbeats 1000000 in
theorem compareL_any (va vb : Value) (xs ys : List Int) (w : World) (ha : Ints w va xs) (hb : Ints w vb ys) :
    Calls Tryz.prog 94 #[va, vb] w fun e w' => e = .returned (.int .i64 (cmpL xs ys)) ∧ w' = w := by
  obtain ⟨A, ca, rfl, hca, hma, hra⟩ := ha
  obtain ⟨B, cb, rfl, hcb, hmb, hrb⟩ := hb
  have HA := hide hra; have HB := hide hrb
  clear hra hrb
  go_enter Tryz.func94, Tryz.ntmps94
  go_wp2_with fail
  go_loop [11] (fun i => ∃ (k : Nat), k ≤ xs.length ∧ k ≤ ys.length ∧ i = .int .i64 (k : Int) ∧ cmpL xs ys = cmpL (xs.drop k) (ys.drop k)) (fun i => xs.length - (intOf i).toNat)
  case atStart => exact ⟨0, Nat.zero_le _, Nat.zero_le _, rfl, rfl⟩
  case round =>
    obtain ⟨k, hk, hk2, rfl, he⟩ := hrel
    have HE := hide he
    clear he
    by_cases hlt : k < xs.length
    · obtain ⟨b, off, rfl, hbt, hc⟩ := Ints.at HA.out hlt
      have hc1 := hc k hlt
      obtain ⟨x, hx⟩ : ∃ x, xs.getD k 0 = x := ⟨_, rfl⟩
      rw [hx] at hc1
      have hdx : xs.drop k = x :: xs.drop (k + 1) := by rw [List.drop_eq_getElem_cons hlt, ← hx, List.getD, List.getElem?_eq_getElem hlt]; rfl
      have HDx := hide hdx
      clear hx hc hdx
      by_cases hlt2 : k < ys.length
      · obtain ⟨b', off', rfl, hbt', hc'⟩ := Ints.at HB.out hlt2
        have hc2 := hc' k hlt2
        obtain ⟨y, hy⟩ : ∃ y, ys.getD k 0 = y := ⟨_, rfl⟩
        rw [hy] at hc2
        have hdy : ys.drop k = y :: ys.drop (k + 1) := by rw [List.drop_eq_getElem_cons hlt2, ← hy, List.getD, List.getElem?_eq_getElem hlt2]; rfl
        have HDy := hide hdy
        clear hy hc' hdy
        have hcmp := Tryz.cmp_Compare_int x y w
        obtain ⟨c, hcq⟩ : ∃ c, Lib.compareInt x y = c := ⟨_, rfl⟩
        rw [hcq] at hcmp
        have HC := hide hcmp; have HCq := hide hcq
        clear hcmp hcq
        go_wp2_with fail
        refine HC.out.mono ?_
        rintro e w' ⟨rfl, hww⟩
        replace hww := hww.symm
        subst hww
        by_cases h0 : c = 0
        · have H0 := hide h0
          subst h0
          go_wp2_with fail
          go_round
          case rel =>
            refine ⟨k + 1, by omega, by omega, by go_num, ?_⟩
            rw [HE.out, HDx.out, HDy.out, cmpL, if_pos HCq.out]
          case measure => simp [intOf]; omega
        · have t1 : (c != 0) = true := by simpa using h0
          have H0 := hide h0
          clear h0
          go_wp2
          go_ret
          exact ⟨by rw [HE.out, HDx.out, HDy.out, cmpL, if_neg (by rw [HCq.out]; exact H0.out), HCq.out]; rfl, rfl⟩
      · have hdy : ys.drop k = [] := List.drop_of_length_le (by omega)
        have HDy := hide hdy
        clear hdy
        go_wp2
        go_ret
        exact ⟨by rw [HE.out, HDx.out, HDy.out, cmpL]; rfl, rfl⟩
    · obtain rfl : k = xs.length := by omega
      have HDx := hide (List.drop_length (l := xs))
      by_cases hlt2 : xs.length < ys.length
      · have hdy : ∃ y t, ys.drop xs.length = y :: t := ⟨_, _, List.drop_eq_getElem_cons hlt2⟩
        obtain ⟨y, t, hdy⟩ := hdy
        have HDy := hide hdy
        clear hdy
        go_wp2
        go_ret
        exact ⟨by rw [HE.out, HDx.out, HDy.out, cmpL]; rfl, rfl⟩
      · have hdy : ys.drop xs.length = [] := List.drop_of_length_le (by omega)
        have HDy := hide hdy
        clear hdy
        go_wp2
        go_ret
        exact ⟨by rw [HE.out, HDx.out, HDy.out, cmpL]; rfl, rfl⟩

def encSq (q : Sq) : List Value := [.int .i64 q.1, .int .i64 q.2.1, .int .i64 q.2.2]
def cmpSq (a b : Sq) : Int := cmpL [a.2.1, a.1] [b.2.1, b.1]

theorem ints_of_blk {w : World} {g : Nat} {xs : List Int} (h : Blk w g 3 (irow xs)) (hl : xs.length ≤ 1152921504606846976) : Ints w (.slice (some ⟨g, 0, none⟩) xs.length xs.length) xs := Ints.of_blk h hl

set_option maxHeartbeats 1000000 in
theorem cmpSq_any (a b : Sq) (W : World) : Calls Tryz.prog 100 #[.agg #[.int .i64 a.1, .int .i64 a.2.1, .int .i64 a.2.2], .agg #[.int .i64 b.1, .int .i64 b.2.1, .int .i64 b.2.2]] W fun e w' => e = .returned (.int .i64 (cmpSq a b)) ∧ ∃ q os', w' = grow (W.drewN q) os' := by
  obtain ⟨ax, ay, az⟩ := a
  obtain ⟨bx, by_, bz⟩ := b
  have hcon := fun W' va vb h1 h2 => compareL_any va vb [ay, ax] [by_, bx] W' h1 h2
  have hr : cmpSq (ax, ay, az) (bx, by_, bz) = cmpL [ay, ax] [by_, bx] := rfl
  generalize cmpSq (ax, ay, az) (bx, by_, bz) = r at hr ⊢
  rw [← hr] at hcon
  clear hr
  simp only []
  have HC := hide hcon
  clear hcon
  go_enter Tryz.func100, Tryz.ntmps100
  go_wp2_with fail
  refine (HC.out _ _ _ ?_ ?_).mono ?_
  · exact Ints.of_blk (xs := [ay, ax]) ((Blk.new' _ _ _ _ (by simp)).alloc _) (by simp)
  · exact Ints.of_blk (xs := [by_, bx]) (Blk.new' _ _ _ _ (by simp)) (by simp)
  rintro e w' ⟨rfl, rfl⟩
  go_wp2
  go_ret
  exact ⟨rfl, 0, _, by rw [alloc_eq_grow, alloc_eq_grow, alloc_eq_grow, alloc_eq_grow, grow_grow, grow_grow, grow_grow]; rfl⟩

/-- A line: its height, where it begins and ends. -/
abbrev Ln := Int × Int × Int
def cmpLn (a b : Ln) : Int := cmpL [a.1, a.2.1, a.2.2] [b.1, b.2.1, b.2.2]
set_option maxHeartbeats 1000000 in
theorem cmpLn_any (a b : Ln) (W : World) : Calls Tryz.prog 102 #[.agg #[.int .i64 a.1, .int .i64 a.2.1, .int .i64 a.2.2], .agg #[.int .i64 b.1, .int .i64 b.2.1, .int .i64 b.2.2]] W fun e w' => e = .returned (.int .i64 (cmpLn a b)) ∧ ∃ q os', w' = grow (W.drewN q) os' := by
  obtain ⟨ax, ay, az⟩ := a
  obtain ⟨bx, by_, bz⟩ := b
  have hcon := fun W' va vb h1 h2 => compareL_any va vb [ax, ay, az] [bx, by_, bz] W' h1 h2
  have hr : cmpLn (ax, ay, az) (bx, by_, bz) = cmpL [ax, ay, az] [bx, by_, bz] := rfl
  generalize cmpLn (ax, ay, az) (bx, by_, bz) = r at hr ⊢
  rw [← hr] at hcon
  clear hr
  simp only []
  have HC := hide hcon
  clear hcon
  go_enter Tryz.func102, Tryz.ntmps102
  go_wp2_with fail
  refine (HC.out _ _ _ ?_ ?_).mono ?_
  · exact Ints.of_blk (xs := [ax, ay, az]) ((Blk.new' _ _ _ _ (by simp)).alloc _) (by simp)
  · exact Ints.of_blk (xs := [bx, by_, bz]) (Blk.new' _ _ _ _ (by simp)) (by simp)
  rintro e w' ⟨rfl, rfl⟩
  go_wp2
  go_ret
  exact ⟨rfl, 0, _, by rw [alloc_eq_grow, alloc_eq_grow, alloc_eq_grow, alloc_eq_grow, grow_grow, grow_grow, grow_grow]; rfl⟩

end Go.Proofs.YtncabodphjkkfaaGreat

namespace Go.Proofs.YtncabodphjkkfaaGreat
open Go.RowKit Go.Limbs Go.Shelf Go.Sort

theorem flatK_list (l : List Sq) : (flatK sqCells 3 l.toArray).toList = l.flatMap sqCells := by
  apply List.ext_getElem?
  intro i
  have hl := sqCells_length l
  by_cases hi : i < l.length * 3
  · have e : i = (i / 3) * 3 + i % 3 := by omega
    conv => rhs; rw [e]
    rw [sqCells_get l (i / 3) (i % 3) (by omega) (by omega)]
    simp only [flatK, Array.toList_map, Array.toList_range, List.getElem?_map, List.size_toArray, List.getElem?_range hi, Option.map_some]
    have h1 : l.toArray[i / 3]! = l.getD (i / 3) (0, 0, 0) := by
      rw [getElem!_pos l.toArray (i / 3) (by simp; omega)]
      simp [List.getD, show i / 3 < l.length by omega]
    rw [h1]
    obtain ⟨a, b, c⟩ := l.getD (i / 3) (0, 0, 0)
    have : i % 3 = 0 ∨ i % 3 = 1 ∨ i % 3 = 2 := by omega
    rcases this with h | h | h <;> rw [h] <;> rfl
  · rw [List.getElem?_eq_none (by simp; omega), List.getElem?_eq_none (by omega)]

/-- A row of three cells an element, sorted. -/
def SortedBy (cf : Sq → Sq → Int) (l : List Sq) : Prop := ∀ i j, i < j → j < l.length → ¬ cf (l.getD j (0, 0, 0)) (l.getD i (0, 0, 0)) < 0

theorem sorted_own {w : World} {base T : Nat} {v : Value} {l l' : List Sq} {g cap m : Nat} {os : Array Obj} (hv : v = .slice (some ⟨g, 0, none⟩) l.length cap) (h : w.ownsRow base T 3 v l.length (l.flatMap sqCells)) (hn : l'.length = l.length) (h0 : 0 < l.length) :
    (sortWorldK sqCells 3 w g 0 m l'.toArray os).ownsRow base T 3 v l'.length (l'.flatMap sqCells) ∧ Keep (fun b => b = g) w (sortWorldK sqCells 3 w g 0 m l'.toArray os) := by
  have hlen := sqCells_length l'
  have hgl : ∀ b, v.ownBlock = some b → base ≤ b ∧ b < w.heap.size := fun b hb => h.lt b hb
  obtain ⟨h1, h2⟩ := h
  rcases h2 with ⟨hv', hn'⟩ | ⟨g', cap', cur, hv', hb, hg, hnc, hcm, hcs, htk⟩
  · omega
  · obtain ⟨rfl, rfl⟩ : g = g' ∧ cap = cap' := by
      rw [hv] at hv'
      injection hv' with e1 e2 e3
      injection e1 with e1; injection e1 with e1
      exact ⟨e1, e3⟩
    have hgs : g < w.heap.size := (Blk.lt (t := T) (cs := cur) hg)
    have hheap : ∀ i : Nat, (sortWorldK sqCells 3 w g 0 m l'.toArray os).heap[i]? = ((w.heap.modify g (onCells (putCells id 0 (flatK sqCells 3 l'.toArray)))) ++ os)[i]? := fun i => rfl
    refine ⟨⟨hlen, .inr ⟨g, cap, putCells id 0 (flatK sqCells 3 l'.toArray) cur, by rw [hn]; exact hv, hb, ?_, by omega, hcm, ?_, ?_⟩⟩, ⟨rfl, rfl, rfl, ?_, fun i hi hne => ?_⟩⟩
    · rw [hheap, Array.getElem?_append_left (by simpa using hgs), Array.getElem?_modify]
      rw [if_pos rfl, hg]; rfl
    · simp [putCells, hcs]
    · have hF : (flatK sqCells 3 l'.toArray).size = l'.length * 3 := by simp
      apply List.ext_getElem?
      intro i
      by_cases hi : i < l'.length * 3
      · rw [List.getElem?_take_of_lt hi, ← flatK_list l']
        simp only [putCells, Array.toList_mapIdx, List.getElem?_mapIdx, Array.getElem?_toList]
        rw [Array.getElem?_eq_getElem (show i < cur.size by omega), Option.map_some, if_pos (by omega)]
        rw [Array.getElem?_eq_getElem (by omega), Nat.sub_zero, getElem!_pos _ i (by omega)]
        rfl
      · rw [List.getElem?_eq_none (by simp; omega), List.getElem?_eq_none (by omega)]
    · show w.heap.size ≤ ((w.heap.modify g _) ++ os).size
      simp
    · rw [hheap, Array.getElem?_append_left (by simpa using hi), Array.getElem?_modify, if_neg (fun e => hne e.symm)]

theorem own_holds {w : World} {base T : Nat} {l : List Sq} {g cap : Nat} (h : w.ownsRow base T 3 (.slice (some ⟨g, 0, none⟩) l.length cap) l.length (l.flatMap sqCells)) (h0 : 0 < l.length) : HoldsK sqCells 3 w g 0 l.toArray := by
  intro j hj
  have hj' : j < l.length * 3 := by simpa using hj
  rcases h.2 with ⟨hv', hn'⟩ | ⟨g', cap', cur, hv', hb, hg, hnc, hcm, hcs, htk⟩
  · omega
  · obtain rfl : g = g' := by
      injection hv' with e1 e2 e3
      injection e1 with e1; injection e1 with e1
    have hB : Blk w g T cur := hg
    refine ⟨?_, hB.frozen _⟩
    rw [hB.cell, Nat.zero_add, getElem!_pos _ j (by simpa using hj')]
    have e : cur.toList[j]? = (l.flatMap sqCells)[j]? := by rw [← htk, List.getElem?_take_of_lt hj']
    rw [← flatK_list l] at e
    simpa [show j < l.length * 3 from hj'] using e

theorem perm_sorted {cf : Sq → Sq → Int} {l : List Sq} {d' : Array Sq} (hp : PermIn 0 l.toArray.size l.toArray d') (hs : SortedIn (ltOf cf) 0 l.toArray.size d') : d'.toList.Perm l ∧ SortedBy cf d'.toList ∧ d'.toList.length = l.length := by
  have hsz : d'.size = l.length := by simpa using hp.1
  refine ⟨?_, fun i j hij hj => ?_, by simpa using hsz⟩
  · have h := hp.2.2
    rw [show l.toArray.size = d'.size by simp [hsz]] at h
    simp only [Array.extract_size] at h
    rw [hsz] at h
    simpa using h
  · have hj' : j < d'.size := by simpa using hj
    have h := hs i j (Nat.zero_le _) hij (by simp; omega)
    have e : ∀ k, k < d'.size → d'[k]! = d'.toList.getD k (0, 0, 0) := fun k hk => by
      rw [getElem!_pos d' k hk]; simp [List.getD, hk]
    rw [e i (by omega), e j hj'] at h
    simpa [ltOf] using h

theorem sqCells_three (x : Sq) : (sqCells x).length = 3 := rfl
theorem sqCells_ones (x : Sq) : ∀ v ∈ sqCells x, v.oneCell' = true := by
  intro v hv
  simp [sqCells] at hv
  rcases hv with rfl | rfl | rfl <;> rfl

theorem compareInt_lt (x y : Int) : Lib.compareInt x y < 0 ↔ x < y := by
  unfold Lib.compareInt
  by_cases h1 : x < y
  · simp [h1]
  · by_cases h2 : y < x <;> simp [h1, h2]
theorem cmpL_lt : ∀ (xs ys : List Int), xs.length = ys.length → (cmpL xs ys < 0 ↔ ∃ k, k < xs.length ∧ (∀ j, j < k → xs.getD j 0 = ys.getD j 0) ∧ xs.getD k 0 < ys.getD k 0)
  | [], [], _ => by simp [cmpL]
  | x :: xs, y :: ys, h => by
    have ih := cmpL_lt xs ys (by simpa using h)
    rw [cmpL]
    split
    · rename_i h0
      have hxy := (compareInt_zero x y).1 h0
      rw [ih]
      constructor
      · rintro ⟨k, hk, ha, hb⟩
        refine ⟨k + 1, by simpa using hk, fun j hj => ?_, by simpa using hb⟩
        rcases j with _ | j
        · simpa using hxy
        · simpa using ha j (by omega)
      · rintro ⟨k, hk, ha, hb⟩
        rcases k with _ | k
        · simp at hb; omega
        · refine ⟨k, by simpa using hk, fun j hj => ?_, by simpa using hb⟩
          simpa using ha (j + 1) (by omega)
    · rename_i h0
      have hxy : x ≠ y := fun e => h0 ((compareInt_zero x y).2 e)
      rw [compareInt_lt]
      constructor
      · intro h; exact ⟨0, by simp, fun j hj => by omega, by simpa using h⟩
      · rintro ⟨k, hk, ha, hb⟩
        rcases k with _ | k
        · simpa using hb
        · exact absurd (by simpa using ha 0 (by omega)) hxy
theorem cmpSq_lt (a b : Sq) : cmpSq a b < 0 ↔ a.2.1 < b.2.1 ∨ a.2.1 = b.2.1 ∧ a.1 < b.1 := by
  unfold cmpSq
  rw [cmpL, cmpL, cmpL]
  split
  · rename_i h0
    have hxy := (compareInt_zero _ _).1 h0
    split
    · rename_i h1
      have hxy2 := (compareInt_zero _ _).1 h1
      constructor
      · intro h; exact absurd h (by decide)
      · intro h; omega
    · rw [compareInt_lt]
      constructor
      · intro h; exact .inr ⟨hxy, h⟩
      · intro h; omega
  · rename_i h0
    have hxy : a.2.1 ≠ b.2.1 := fun e => h0 ((compareInt_zero _ _).2 e)
    rw [compareInt_lt]
    omega
theorem cmpLn_lt (a b : Ln) : cmpLn a b < 0 ↔ a.1 < b.1 ∨ a.1 = b.1 ∧ (a.2.1 < b.2.1 ∨ a.2.1 = b.2.1 ∧ a.2.2 < b.2.2) := by
  unfold cmpLn
  rw [cmpL, cmpL, cmpL, cmpL]
  split
  · rename_i h0
    have hxy := (compareInt_zero _ _).1 h0
    split
    · rename_i h1
      have hxy2 := (compareInt_zero _ _).1 h1
      split
      · rename_i h2
        have hxy3 := (compareInt_zero _ _).1 h2
        constructor
        · intro h; exact absurd h (by decide)
        · intro h; omega
      · rw [compareInt_lt]; omega
    · rename_i h1
      have hxy2 : a.2.1 ≠ b.2.1 := fun e => h1 ((compareInt_zero _ _).2 e)
      rw [compareInt_lt]; omega
  · rename_i h0
    have hxy : a.1 ≠ b.1 := fun e => h0 ((compareInt_zero _ _).2 e)
    rw [compareInt_lt]; omega
theorem swoSq : SWO (ltOf cmpSq) where
  irrefl x := by simp only [ltOf, decide_eq_false_iff_not, cmpSq_lt]; omega
  trans x y z h1 h2 := by simp only [ltOf, decide_eq_true_eq, cmpSq_lt] at *; omega
  ntrans x y z h1 h2 := by simp only [ltOf, decide_eq_false_iff_not, cmpSq_lt] at *; omega
theorem swoLn : SWO (ltOf cmpLn) where
  irrefl x := by simp only [ltOf, decide_eq_false_iff_not, cmpLn_lt]; omega
  trans x y z h1 h2 := by simp only [ltOf, decide_eq_true_eq, cmpLn_lt] at *; omega
  ntrans x y z h1 h2 := by simp only [ltOf, decide_eq_false_iff_not, cmpLn_lt] at *; omega

theorem sortSq_any (v : Value) (l : List Sq) (base : Nat) (w : World) (h : w.ownsRow base 47 3 v l.length (l.flatMap sqCells)) (h0 : 0 < l.length) (hl : l.length ≤ 1048576) :
    Calls Tryz.prog 99 #[v, .func (.func 100) #[] #[]] w fun e w' => e = .returned (.tuple #[]) ∧ ∃ l' : List Sq, l'.Perm l ∧ SortedBy cmpSq l' ∧ w'.ownsRow base 47 3 v l'.length (l'.flatMap sqCells) ∧ Keep (fun b => v.ownBlock = some b) w w' := by
  obtain ⟨g, cap, hv, hg1, hg2⟩ := h.form h0
  subst hv
  have eg : ∀ args w, (callFunc 100 args).run Tryz.prog w = .ok (.enter 100 args) w := enters_of Tryz.func100 (by kernel_rfl) rfl
  have hcon := AnyQ.slices_SortFunc Tryz.sortSq 3 Tryz.isAgg47 Tryz.sizeOf47 sqCells sqCells_three sqCells_ones cmpSq swoSq 100 #[] g 0 cap l.toArray w eg (fun _ _ _ _ x y => cmpSq_any x y _) (own_holds h h0) hg2 (by simp; omega)
  change Calls Tryz.prog 99 _ _ _ at hcon
  simp only [List.size_toArray] at hcon
  refine hcon.mono ?_
  rintro e w' ⟨he, d', n, os, hp, hs, rfl⟩
  obtain ⟨k1, k2, k3⟩ := perm_sorted (by simpa using hp) (by simpa using hs)
  have hso := sorted_own (m := n) (os := os) rfl h k3 h0
  refine ⟨he, d'.toList, k1, k2, ?_, ?_⟩
  · simpa using hso.1
  · have := hso.2
    simp only [Array.toArray_toList] at this
    exact this.mono fun b hb => by subst hb; rfl
theorem sortLn_any (v : Value) (l : List Ln) (base : Nat) (w : World) (h : w.ownsRow base 94 3 v l.length (l.flatMap sqCells)) (h0 : 0 < l.length) (hl : l.length ≤ 1048576) :
    Calls Tryz.prog 101 #[v, .func (.func 102) #[] #[]] w fun e w' => e = .returned (.tuple #[]) ∧ ∃ l' : List Ln, l'.Perm l ∧ SortedBy cmpLn l' ∧ w'.ownsRow base 94 3 v l'.length (l'.flatMap sqCells) ∧ Keep (fun b => v.ownBlock = some b) w w' := by
  obtain ⟨g, cap, hv, hg1, hg2⟩ := h.form h0
  subst hv
  have eg : ∀ args w, (callFunc 102 args).run Tryz.prog w = .ok (.enter 102 args) w := enters_of Tryz.func102 (by kernel_rfl) rfl
  have hcon := AnyQ.slices_SortFunc Tryz.sortLn 3 Tryz.isAgg94 Tryz.sizeOf94 sqCells sqCells_three sqCells_ones cmpLn swoLn 102 #[] g 0 cap l.toArray w eg (fun _ _ _ _ x y => cmpLn_any x y _) (own_holds h h0) hg2 (by simp; omega)
  change Calls Tryz.prog 101 _ _ _ at hcon
  simp only [List.size_toArray] at hcon
  refine hcon.mono ?_
  rintro e w' ⟨he, d', n, os, hp, hs, rfl⟩
  obtain ⟨k1, k2, k3⟩ := perm_sorted (by simpa using hp) (by simpa using hs)
  have hso := sorted_own (m := n) (os := os) rfl h k3 h0
  refine ⟨he, d'.toList, k1, k2, ?_, ?_⟩
  · simpa using hso.1
  · have := hso.2
    simp only [Array.toArray_toList] at this
    exact this.mono fun b hb => by subst hb; rfl

end Go.Proofs.YtncabodphjkkfaaGreat
