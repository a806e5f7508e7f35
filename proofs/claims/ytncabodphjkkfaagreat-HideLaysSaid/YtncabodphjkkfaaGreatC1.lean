/- Whether a network is connected. Conditions: none. -/
import Derived.Test.YtncabodphjkkfaaGreatH5
import Derived.Test.YtncabodphjkkfaaGreatM1
import Derived.Deep.LoopGhost
namespace Go.Proofs.YtncabodphjkkfaaGreat
open Go.RowKit Go.Limbs Go.Shelf

abbrev Pr := Int × Int
def prCells (p : Pr) : List Value := [.int .i64 p.1, .int .i64 p.2]
/-- v is a slice of the pairs l. -/
def Prs (w : World) (v : Value) (l : List Pr) : Prop :=
  ∃ A cap, v = .slice A l.length cap ∧ l.length ≤ cap ∧ l.length ≤ 1152921504606846976 ∧ Rd w 40 A (l.flatMap prCells)
theorem Prs.ext {w w' : World} {v : Value} {xs : List Pr} (h : Prs w v xs) (hb : Ext w w') : Prs w' v xs := by
  obtain ⟨A, cap, hv, h1, h2, h4⟩ := h
  exact ⟨A, cap, hv, h1, h2, h4.ext hb⟩
theorem prCells_length (l : List Pr) : (l.flatMap prCells).length = l.length * 2 := by
  induction l with
  | nil => rfl
  | cons q l ih => rw [List.flatMap_cons, List.length_append, ih, List.length_cons, show (prCells q).length = 2 from rfl]; omega
theorem prCells_one (l : List Pr) : ∀ u ∈ l.flatMap prCells, u.oneCell' = true := by
  intro u hu
  obtain ⟨q, _, hq⟩ := List.mem_flatMap.1 hu
  simp [prCells] at hq
  rcases hq with rfl | rfl <;> rfl
theorem Prs.of_own {w : World} {base : Nat} {v : Value} {l : List Pr} (h : w.ownsRow base 40 2 v l.length (l.flatMap prCells)) (hl : l.length ≤ 1152921504606846976) : Prs w v l := by
  obtain ⟨A, cap, rfl, hc, _⟩ := own_slice h
  exact ⟨A, cap, rfl, hc, hl, Rd.of_own h⟩
theorem info40 : (Tryz.prog.info? 40).map (fun i => (i.zero, i.size, i.bytes)) = some (some (.agg #[.int .i64 0, .int .i64 0]), 2, 16) := by kernel_rfl
theorem prCells_get (l : List Pr) (k j : Nat) (hj : j < 2) (hk : k < l.length) : (l.flatMap prCells)[k * 2 + j]? = (prCells (l.getD k (0, 0)))[j]? := by
  induction l generalizing k with
  | nil => simp at hk
  | cons q l ih =>
    rw [List.flatMap_cons]
    rcases k with _ | k
    · rw [List.getElem?_append_left (by rw [show (prCells q).length = 2 from rfl]; omega)]
      simp [List.getD]
    · rw [List.getElem?_append_right (by rw [show (prCells q).length = 2 from rfl]; omega), show (prCells q).length = 2 from rfl, show (k + 1) * 2 + j - 2 = k * 2 + j by omega, ih k (by simpa using hk)]
      simp [List.getD]
/-- The two cells of one pair. -/
theorem Prs.at {w : World} {A : Option Addr} {l : List Pr} (h : Rd w 40 A (l.flatMap prCells)) {k : Nat} (hk : k < l.length) :
    ∃ b off, A = some ⟨b, off, none⟩ ∧ TyBlk w b 40 ∧ ∀ j, j < l.length → w.cell? ⟨b, off + j * 2, none⟩ = some (.int .i64 (l.getD j (0, 0)).1) ∧ w.cell? ⟨b, off + j * 2 + 1, none⟩ = some (.int .i64 (l.getD j (0, 0)).2) := by
  obtain ⟨b, off, hA, hb, hc⟩ := h (by intro e; have := prCells_length l; rw [e] at this; simp at this; omega)
  refine ⟨b, off, hA, hb, fun j hj => ?_⟩
  have hl := prCells_length l
  have h0 := hc (j * 2) (by omega)
  have h1 := hc (j * 2 + 1) (by omega)
  rw [List.getD, show j * 2 = j * 2 + 0 from rfl, prCells_get l j 0 (by omega) hj] at h0
  rw [List.getD, prCells_get l j 1 (by omega) hj] at h1
  exact ⟨h0, h1⟩

/-- A row of truth values. -/
def brow (l : List Bool) : Array Value := (l.map Value.bool).toArray
theorem brow_get {l : List Bool} {k : Nat} (h : k < l.length) : (brow l)[k]? = some (.bool (l.getD k false)) := by simp [brow, List.getD, h]
theorem brow_set (l : List Bool) (k : Nat) (b : Bool) : (brow l).setIfInBounds k (.bool b) = brow (l.set k b) := by
  simp [brow, List.map_set]

theorem bindex_any (g cap : Nat) (l : List Bool) (w : World) (hB : Blk w g 4 (brow l)) (hl : l.length ≤ 1048576) :
    Calls Tryz.prog 171 #[.slice (some ⟨g, 0, none⟩) l.length cap, .bool false] w fun e w' => ∃ k : Int, e = .returned (.int .i64 k) ∧ (0 ≤ k ↔ false ∈ l) ∧ w' = w := by
  have HB := hide hB
  clear hB
  go_enter Tryz.func171, Tryz.ntmps171
  go_wp2
  go_loop [8] (fun i => ∃ (k : Nat), k ≤ l.length ∧ i = .int .i64 (k : Int) ∧ ∀ j, j < k → l.getD j false = true) (fun i => l.length - (intOf i).toNat)
  case atStart => exact ⟨0, Nat.zero_le _, rfl, fun j hj => by omega⟩
  case round =>
    obtain ⟨k, hk, rfl, hle⟩ := hrel
    have HL := hide hle
    clear hle
    by_cases hlt : k < l.length
    · have hc := HB.out.cell k
      rw [brow_get hlt] at hc
      obtain ⟨y, hy⟩ : ∃ y, l.getD k false = y := ⟨_, rfl⟩
      rw [hy] at hc
      have HY := hide hy
      clear hy
      cases y
      · go_wp2
        go_ret
        refine ⟨k, rfl, ⟨fun _ => ?_, fun _ => by omega⟩, rfl⟩
        rw [← HY.out, List.getD, List.getElem?_eq_getElem hlt]
        exact List.getElem_mem hlt
      · go_wp2
        go_round
        case rel =>
          refine ⟨k + 1, by omega, by go_num, fun j hj => ?_⟩
          rcases Nat.lt_or_ge j k with h | h
          · exact HL.out j h
          · obtain rfl : j = k := by omega
            exact HY.out
        case measure => simp [intOf]; omega
    · obtain rfl : k = l.length := by omega
      go_wp2
      go_ret
      refine ⟨-1, rfl, ⟨fun h => absurd h (by decide), fun h => ?_⟩, rfl⟩
      obtain ⟨j, hj, he⟩ := List.getElem_of_mem h
      have := HL.out j hj
      rw [List.getD, List.getElem?_eq_getElem hj] at this
      rw [Option.getD_some, he] at this
      cases this

theorem bcontains_any (g cap : Nat) (l : List Bool) (w : World) (hB : Blk w g 4 (brow l)) (hl : l.length ≤ 1048576) :
    Calls Tryz.prog 132 #[.slice (some ⟨g, 0, none⟩) l.length cap, .bool false] w fun e w' => e = .returned (.bool (decide (false ∈ l))) ∧ w' = w := by
  have HI := hide (bindex_any g cap l w hB hl)
  clear hB
  go_enter Tryz.func132, Tryz.ntmps132
  go_wp2_with fail
  refine HI.out.mono ?_
  rintro e w' ⟨k, rfl, hk, rfl⟩
  have HK := hide hk
  clear hk HI
  go_wp2
  go_ret
  exact ⟨by rw [← decide_eq_decide.2 HK.out]; rfl, rfl⟩

/-- The nodes that are reached from node 0. -/
inductive Reach (ps : List Pr) : Int → Prop
  | zero : Reach ps 0
  | fwd {a b : Int} : (a, b) ∈ ps → Reach ps a → Reach ps b
  | bwd {a b : Int} : (a, b) ∈ ps → Reach ps b → Reach ps a

def falses (l : List Bool) : Nat := (l.filter fun b => !b).length
theorem falses_set (l : List Bool) (k : Nat) : falses (l.set k true) ≤ falses l ∧ (k < l.length → l.getD k false = false → falses (l.set k true) < falses l) := by
  induction l generalizing k with
  | nil => simp [falses]
  | cons b l ih =>
    rcases k with _ | k
    · cases b <;> simp [falses, List.getD]
    · have h := ih k
      cases b
      · simp only [List.set_cons_succ, falses, List.filter_cons, Bool.not_false, if_true, List.length_cons] at h ⊢
        refine ⟨by omega, fun h1 h2 => ?_⟩
        have := h.2 (by omega) (by simpa [List.getD] using h2)
        omega
      · simp only [List.set_cons_succ, falses, List.filter_cons, Bool.not_true, List.length_cons] at h ⊢
        refine ⟨by simpa using h.1, fun h1 h2 => ?_⟩
        have := h.2 (by omega) (by simpa [List.getD] using h2)
        simpa using this

theorem set_true_get (t : List Bool) (k i : Nat) (h : (t.set k true).getD i false = true) : i = k ∨ t.getD i false = true := by
  by_cases e : k = i
  · exact .inl e.symm
  · right; simpa [List.getD, List.getElem?_set_ne e] using h
theorem set_true_keep (t : List Bool) (k i : Nat) (h : t.getD i false = true) : (t.set k true).getD i false = true := by
  by_cases e : k = i
  · subst e
    by_cases hk : k < t.length
    · simp [List.getD, hk]
    · simp [List.getD, hk] at h
  · simpa [List.getD, List.getElem?_set_ne e] using h
theorem set_true_ne (t : List Bool) (k i : Nat) (e : k ≠ i) : (t.set k true).getD i false = t.getD i false := by simp [List.getD, List.getElem?_set_ne e]
/-- Both ends of a wire are marked, of which one was not. -/
theorem mark_step {ps : List Pr} {t : List Bool} {x y n : Nat} (hl : t.length = n) (hx : x < n) (hy : y < n) (hne : t.getD x false ≠ t.getD y false) (hp : ((x : Int), (y : Int)) ∈ ps) (h0 : t.getD 0 false = true) (hr : ∀ i : Nat, t.getD i false = true → Reach ps (i : Int)) :
    ((t.set x true).set y true).length = n ∧ ((t.set x true).set y true).getD 0 false = true ∧ (∀ i : Nat, ((t.set x true).set y true).getD i false = true → Reach ps (i : Int)) ∧ falses ((t.set x true).set y true) < falses t := by
  have hxy : x ≠ y := fun e => hne (by rw [e])
  have hboth : Reach ps (x : Int) ∧ Reach ps (y : Int) := by
    cases h1 : t.getD x false with
    | true => exact ⟨hr x h1, .fwd hp (hr x h1)⟩
    | false =>
      have h2 : t.getD y false = true := by
        cases h2 : t.getD y false with
        | true => rfl
        | false => exact absurd (h1.trans h2.symm) hne
      exact ⟨.bwd hp (hr y h2), hr y h2⟩
  refine ⟨by simp [hl], set_true_keep _ _ _ (set_true_keep _ _ _ h0), fun i hi => ?_, ?_⟩
  · rcases set_true_get _ _ _ hi with rfl | h
    · exact hboth.2
    · rcases set_true_get _ _ _ h with rfl | h
      · exact hboth.1
      · exact hr i h
  · cases h1 : t.getD x false with
    | false => exact Nat.lt_of_le_of_lt (falses_set _ _).1 ((falses_set t x).2 (by omega) h1)
    | true =>
      have h2 : t.getD y false = false := by
        cases h2 : t.getD y false with
        | false => rfl
        | true => exact absurd (h1.trans h2.symm) hne
      exact Nat.lt_of_lt_of_le ((falses_set (t.set x true) y).2 (by simp [hl]; omega) (by rw [set_true_ne _ _ _ hxy, h2])) (falses_set _ _).1
theorem mk_bools (n : Nat) (hb : n ≤ 1048576) : ∀ W : World, (Instr.makeSlice 178 (.int .i64 (n : Int)) (.int .i64 (n : Int))).run Tryz.prog W =
    .ok (.slice (some ⟨W.heap.size, 0, none⟩) n n) (W.alloc (.cells (brow (List.replicate n false)) 4)) := fun W => by
  obtain ⟨i0, hi, hz0, hz1, hz2⟩ := info_parts (show (Tryz.prog.info? 4).map (fun i => (i.zero, i.size, i.bytes)) = some (some (.bool false), 1, 1) by kernel_rfl)
  rw [run_make_rowN (P := Tryz.prog) 178 4 i0 _ Tryz.underlying178 hi hz0 .i64 .i64 n n (Nat.le_refl _) (by rw [hz2]; omega) (by omega) W, hz1, madeCells_one _ rfl]
  simp [brow]

set_option maxRecDepth 100000 in
set_option maxHeartbeats 4000000 in
theorem connected_any (v : Value) (n : Nat) (ps : List Pr) (w : World) (hv : Prs w v ps) (hn : 1 ≤ n) (hn2 : n ≤ 1048576) (hps : ∀ p ∈ ps, 0 ≤ p.1 ∧ p.1 < n ∧ 0 ≤ p.2 ∧ p.2 < n) :
    Calls Tryz.prog 104 #[.int .i64 (n : Int), v] w fun e w' => ∃ b : Bool, e = .returned (.bool b) ∧ (b = true ↔ ∀ i : Nat, i < n → Reach ps (i : Int)) ∧ Ext w w' := by
  obtain ⟨A, cap, rfl, hcap, hm, hrd⟩ := hv
  have HRD := hide hrd; have HPs := hide hps
  have hmk := mk_bools n hn2
  have hB0 : Blk (w.alloc (.cells (brow (List.replicate n false)) 4)) w.heap.size 4 (brow (List.replicate n false)) := Blk.new _ _ _
  have c0 := hB0.cell 0
  have f0 := hB0.frozen 0
  rw [brow_get (by simp; omega)] at c0
  have hB1 : Blk (w.alloc (.cells ((brow (List.replicate n false)).setIfInBounds 0 (.bool true)) 4)) w.heap.size 4 (brow ((List.replicate n false).set 0 true)) := by rw [brow_set]; exact Blk.new _ _ _
  have hE1 : Ext w (w.alloc (.cells ((brow (List.replicate n false)).setIfInBounds 0 (.bool true)) 4)) := (Below.refl _ _).alloc (Nat.le_refl _) _
  have HB1 := hide hB1; have HE1 := hide hE1
  clear hrd hps hB0 hB1 hE1
  go_enter Tryz.func104, Tryz.ntmps104
  go_wp2_with fail
  clear hmk c0 f0
  obtain ⟨g, hg⟩ : ∃ g, w.heap.size = g := ⟨_, rfl⟩
  rw [hg] at HB1
  rw [hg]
  have hgw : w.heap.size ≤ g := by omega
  clear hg
  go_loopg [6] (n + 2) (fun N s6 wr => ∃ (sl : List Bool) (more : Bool), s6 = .bool more ∧ sl.length = n ∧ Blk wr g 4 (brow sl) ∧ sl.getD 0 false = true ∧ (∀ i : Nat, sl.getD i false = true → Reach ps (i : Int)) ∧ (more = true → falses sl + 1 ≤ N) ∧
      (more = false → ∀ p ∈ ps, sl.getD p.1.toNat false = sl.getD p.2.toNat false) ∧ Ext w wr)
  case atStart =>
    refine ⟨_, true, rfl, by simp, HB1.out, (by rw [List.getD, List.getElem?_set_self (by simp; omega)]; rfl), fun i hi => ?_, fun _ => ?_, fun h => (by cases h), HE1.out⟩
    · by_cases e : 0 = i
      · subst e; exact .zero
      · simp [List.getD, e, List.getElem?_replicate] at hi
        split at hi <;> simp at hi
    · have : falses ((List.replicate n false).set 0 true) ≤ n := by
        refine Nat.le_trans (falses_set _ _).1 ?_
        simp [falses]
      omega
  case round =>
    obtain ⟨sl, more, rfl, hsl, hB, h0, hr, hmt, hmf, hE⟩ := hrel
    have HB := hide hB; have H0 := hide h0; have HR := hide hr; have HMt := hide hmt; have HMf := hide hmf; have HE := hide hE; have HSl := hide hsl
    clear hB h0 hr hmt hmf hE hsl
    cases more
    · obtain ⟨w3, hw3⟩ : ∃ w0, w0 = wr := ⟨_, rfl⟩
      subst hw3
      have HCo := hide (bcontains_any g n sl w3 HB.out (by rw [HSl.out]; exact hn2))
      rw [HSl.out] at HCo
      obtain ⟨fb, hfb⟩ : ∃ b : Bool, decide (false ∈ sl) = b := ⟨_, rfl⟩
      rw [hfb] at HCo
      have HFb := hide hfb
      clear hfb
      go_wp2_with fail
      refine HCo.out.mono ?_
      rintro e w' ⟨rfl, rfl⟩
      go_wp2
      go_ret
      refine ⟨!fb, by cases fb <;> rfl, ?_, HE.out⟩
      rw [← HFb.out]
      constructor
      · intro h i hi
        refine HR.out i ?_
        have h1 : ¬ false ∈ sl := by simpa using h
        have hil : i < sl.length := by rw [HSl.out]; exact hi
        rw [List.getD, List.getElem?_eq_getElem hil]
        cases hx : sl[i] with
        | true => rfl
        | false => exact absurd (hx ▸ List.getElem_mem hil) h1
      · intro h
        have key : ∀ x, Reach ps x → sl.getD x.toNat false = true := by
          intro x hx
          induction hx with
          | zero => exact H0.out
          | fwd hp _ ih => rw [← HMf.out (by first | rfl | trivial) _ hp]; exact ih
          | bwd hp _ ih => rw [HMf.out (by first | rfl | trivial) _ hp]; exact ih
        have h1 : ¬ false ∈ sl := by
          intro hm
          obtain ⟨j, hj, he⟩ := List.getElem_of_mem hm
          have := key _ (h j (by rw [← HSl.out]; exact hj))
          rw [Int.toNat_natCast, List.getD, List.getElem?_eq_getElem hj, Option.getD_some, he] at this
          cases this
        simpa using h1
    · obtain ⟨w3, hw3⟩ : ∃ w0, w0 = wr := ⟨_, rfl⟩
      subst hw3
      go_wp2_with fail
      go_loopw [6, 16] (fun s6 s16 wr => ∃ (k : Nat) (t : List Bool) (more : Bool), k ≤ ps.length ∧ s6 = .bool more ∧ s16 = .int .i64 (k : Int) ∧ t.length = n ∧ Blk wr g 4 (brow t) ∧ t.getD 0 false = true ∧ (∀ i : Nat, t.getD i false = true → Reach ps (i : Int)) ∧
          (more = true → falses t < falses sl) ∧ (more = false → t = sl ∧ ∀ j, j < k → sl.getD (ps.getD j (0, 0)).1.toNat false = sl.getD (ps.getD j (0, 0)).2.toNat false) ∧ Ext w wr) (fun _ s16 _ => ps.length - (intOf s16).toNat)
      case atStart => exact ⟨0, sl, false, Nat.zero_le _, rfl, rfl, HSl.out, HB.out, H0.out, HR.out, fun h => (by cases h), fun _ => ⟨rfl, fun j hj => by omega⟩, HE.out⟩
      case round =>
        obtain ⟨k, t, more, hk, rfl, rfl, htl, hB, h0, hr, hmt, hmf, hE⟩ := hrel
        have HB2 := hide hB; have H02 := hide h0; have HR2 := hide hr; have HMt2 := hide hmt; have HMf2 := hide hmf; have HE2 := hide hE; have HTl := hide htl
        clear hB h0 hr hmt hmf hE htl
        obtain ⟨w4, hw4⟩ : ∃ w0, w0 = wr := ⟨_, rfl⟩
        subst hw4
        by_cases hlt : k < ps.length
        · obtain ⟨b, off, rfl, hbt, hc⟩ := Prs.at HRD.out hlt
          obtain ⟨a0, a1⟩ := hc k hlt
          have hpm : ps.getD k (0, 0) ∈ ps := by rw [List.getD, List.getElem?_eq_getElem hlt]; exact List.getElem_mem hlt
          obtain ⟨⟨x, y⟩, hp⟩ : ∃ p, ps.getD k (0, 0) = p := ⟨_, rfl⟩
          rw [hp] at a0 a1 hpm
          obtain ⟨hx0, hxn, hy0, hyn⟩ := HPs.out _ hpm
          obtain ⟨x, rfl⟩ : ∃ m : Nat, x = m := ⟨x.toNat, by simp only [] at hx0; omega⟩
          obtain ⟨y, rfl⟩ : ∃ m : Nat, y = m := ⟨y.toNat, by simp only [] at hy0; omega⟩
          simp only [] at hx0 hxn hy0 hyn a0 a1
          have hxn' : x < n := by omega
          have hyn' : y < n := by omega
          have b0 : w4.cell? ⟨b, off + k * 2, none⟩ = some (.int .i64 (x : Int)) := (HE2.out.cell (p := ⟨b, off + k * 2, none⟩) hbt.lt).trans a0
          have b1 : w4.cell? ⟨b, off + k * 2 + 1, none⟩ = some (.int .i64 (y : Int)) := (HE2.out.cell (p := ⟨b, off + k * 2 + 1, none⟩) hbt.lt).trans a1
          have HP := hide hp; have HPm := hide hpm
          clear hc a0 a1 hp hpm hx0 hxn hy0 hyn
          go_wp2_with fail
          have hEa : Ext w4 (w4.alloc (.cells #[.int .i64 (x : Int), .int .i64 (y : Int)] 40)) := (Below.refl _ _).alloc (Nat.le_refl _) _
          have hBp : Blk (w4.alloc (.cells #[.int .i64 (x : Int), .int .i64 (y : Int)] 40)) w4.heap.size 40 #[.int .i64 (x : Int), .int .i64 (y : Int)] := Blk.new _ _ _
          have hBs := HB2.out.ext hEa
          have HE3 := hide (HE2.out.tr hEa)
          obtain ⟨gp, hgp⟩ : ∃ g, w4.heap.size = g := ⟨_, rfl⟩
          rw [hgp] at hBp
          rw [hgp]
          generalize w4.alloc (.cells #[.int .i64 (x : Int), .int .i64 (y : Int)] 40) = w5 at hBp hBs HE3 ⊢
          have p0 := hBp.cell 0
          have p1 := hBp.cell 1
          simp at p0 p1
          have s0 := hBs.cell x
          have s1 := hBs.cell y
          rw [brow_get (by rw [HTl.out]; omega)] at s0 s1
          obtain ⟨tx, htx⟩ : ∃ b, t.getD x false = b := ⟨_, rfl⟩
          obtain ⟨ty, hty⟩ : ∃ b, t.getD y false = b := ⟨_, rfl⟩
          rw [htx] at s0
          rw [hty] at s1
          have HTx := hide htx; have HTy := hide hty; have HBs := hide hBs; have HBp := hide hBp
          clear htx hty hgp hEa hBs hBp b0 b1
          by_cases heq : tx = ty
          · have HEq := hide heq
            cases tx <;> cases ty <;> first | (exfalso; cases heq; done) | skip
            all_goals
              clear heq
              go_wp2_with fail
              go_quiet (fail)
              go_wp2_with fail
              go_roundw
              case rel =>
                refine ⟨k + 1, t, more, by omega, rfl, by go_num, HTl.out, HBs.out.drewN _, H02.out, HR2.out, HMt2.out, fun h => ⟨(HMf2.out h).1, fun j hj => ?_⟩, below_drewN HE3.out _⟩
                rcases Nat.lt_or_ge j k with h' | h'
                · exact (HMf2.out h).2 j h'
                · obtain rfl : j = k := by omega
                  rw [HP.out, ← (HMf2.out h).1]
                  show t.getD (x : Int).toNat false = t.getD (y : Int).toNat false
                  rw [Int.toNat_natCast, Int.toNat_natCast, HTx.out, HTy.out]
              case measure => simp [intOf]; omega
          · have hgne : gp ≠ g := HBp.out.ty.ne HBs.out.ty (by decide)
            have HNe := hide heq
            cases tx <;> cases ty <;> first | (exfalso; exact heq rfl) | skip
            all_goals
              clear heq
              go_wp2_with fail
              go_quiet (fail)
              go_wp2_with fail
              have n1 : ¬ x = y := fun e => by
                have h1 := HTx.out
                have h2 := HTy.out
                rw [e, h2] at h1
                cases h1
              have n2 : ¬ y = x := fun e => n1 e.symm
              have fx := HBs.out.frozen x
              have fy := HBs.out.frozen y
              go_region
              go_wp2_with fail
              go_roundw
              case rel =>
                obtain ⟨m1, m2, m3, m4⟩ := mark_step HTl.out hxn' hyn' (by rw [HTx.out, HTy.out]; decide) HPm.out H02.out HR2.out
                have hb := ((HBs.out.drewN (nq + 1)).set_ x (.bool true)).set_ y (.bool true)
                rw [brow_set, brow_set] at hb
                refine ⟨k + 1, (t.set x true).set y true, true, by omega, rfl, by go_num, m1, hb, m2, m3, fun _ => ?_, fun h => (by cases h), ((below_drewN HE3.out _).setCell (p := ⟨g, x, none⟩) hgw _).setCell (p := ⟨g, y, none⟩) hgw _⟩
                cases more
                · rw [(HMf2.out rfl).1] at m4; rw [(HMf2.out rfl).1]; exact m4
                · exact Nat.lt_trans m4 (HMt2.out rfl)
              case measure => simp [intOf]; omega
        · obtain rfl : k = ps.length := by omega
          cases more
          · go_wp2_with fail
            go_roundg 0
            case measure => have := HMt.out (by first | rfl | trivial); omega
            case rel =>
              have h := HMf2.out (by first | rfl | trivial)
              refine ⟨t, false, rfl, HTl.out, HB2.out, H02.out, HR2.out, fun h => (by cases h), fun _ p hp => ?_, HE2.out⟩
              obtain ⟨j, hj, rfl⟩ := List.getElem_of_mem hp
              have := h.2 j hj
              rw [show ps.getD j (0, 0) = ps[j] by simp [List.getD, hj]] at this
              rw [h.1]; exact this
          · have hlt2 := HMt2.out (by first | rfl | trivial)
            have hlt3 := HMt.out (by first | rfl | trivial)
            go_wp2_with fail
            go_roundg (falses t + 1)
            case measure => omega
            case rel => exact ⟨t, true, rfl, HTl.out, HB2.out, H02.out, HR2.out, fun _ => Nat.le_refl _, fun h => (by cases h), HE2.out⟩

end Go.Proofs.YtncabodphjkkfaaGreat
