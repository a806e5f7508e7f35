/- The potentials of a network's nodes. Conditions: the network is valid; the pivots are not 0, the fractions fit into a machine. -/
import Derived.Test.YtncabodphjkkfaaGreatC1
import Derived.Test.YtncabodphjkkfaaGreatM6
namespace Go.Proofs.YtncabodphjkkfaaGreat
open Go.RowKit Go.Limbs Go.Shelf

/-- The matrix of a network without its last node. -/
def lapStep (N : Nat) (M : List (List Rat)) (p0 p1 : Nat) : List (List Rat) :=
  if p0 = N then M else if p1 < N then mset (mset M p0 p0 (mget M p0 p0 + 1)) p0 p1 (mget (mset M p0 p0 (mget M p0 p0 + 1)) p0 p1 + (-1)) else mset M p0 p0 (mget M p0 p0 + 1)
def lapHalf (N : Nat) (M : List (List Rat)) (x y : Nat) : Nat → List (List Rat)
  | 0 => M
  | 1 => lapStep N M x y
  | _ => lapStep N (lapStep N M x y) y x
theorem lapHalf_zero (N : Nat) (M : List (List Rat)) (x y : Nat) : lapHalf N M x y 0 = M := rfl
def lapWire (N : Nat) (M : List (List Rat)) (p : Pr) : List (List Rat) := lapStep N (lapStep N M p.1.toNat p.2.toNat) p.2.toNat p.1.toNat
def lap (N : Nat) (ps : List Pr) : List (List Rat) := ps.foldl (lapWire N) (zeros N)
def rhs (N : Nat) : List Rat := (List.replicate N 0).set 0 1
/-- The potentials. -/
def hts (n : Nat) (ps : List Pr) : List Rat := solveR (lap (n - 1) ps) (rhs (n - 1)) (n - 1) ++ [0]

theorem mget_mset (A : List (List Rat)) (i j i' j' : Nat) (q : Rat) : mget (mset A i j q) i' j' = if i = i' ∧ j = j' ∧ i < A.length ∧ j < (A.getD i []).length then q else mget A i' j' := by
  unfold mget mset
  by_cases hi : i = i'
  · subst hi
    by_cases hl : i < A.length
    · rw [show (A.set i ((A.getD i []).set j q)).getD i [] = (A.getD i []).set j q by simp [List.getD, hl]]
      by_cases hj : j = j'
      · subst hj
        by_cases hjl : j < (A.getD i []).length
        · rw [if_pos ⟨rfl, rfl, hl, hjl⟩, List.getD, List.getElem?_set_self hjl]; rfl
        · rw [if_neg (fun h => hjl h.2.2.2), List.set_eq_of_length_le (by omega)]
      · rw [if_neg (fun h => hj h.2.1), List.getD, List.getElem?_set_ne hj]; rfl
    · rw [if_neg (fun h => hl h.2.2.1), List.set_eq_of_length_le (by omega)]
  · rw [if_neg (fun h => hi h.1)]
    rw [show (A.set i ((A.getD i []).set j q)).getD i' [] = A.getD i' [] by simp [List.getD, List.getElem?_set_ne hi]]
theorem Dim.mset {A : List (List Rat)} {N M : Nat} (h : Dim A N M) (i j : Nat) (q : Rat) : Dim (Go.Proofs.YtncabodphjkkfaaGreat.mset A i j q) N M :=
  ⟨by rw [mset_length]; exact h.1, fun k hk => by rw [mset_row_length]; exact h.2 k hk⟩
/-- Whole numbers whose size is at most B. -/
def Wholes (A : List (List Rat)) (B : Nat) : Prop := ∀ i j, ∃ z : Int, mget A i j = (z : Rat) ∧ z.natAbs ≤ B
theorem Wholes.mset {A : List (List Rat)} {B : Nat} (h : Wholes A B) (i j : Nat) (z : Int) (hz : z.natAbs ≤ 1) (a b : Nat) : ∃ y : Int, mget (Go.Proofs.YtncabodphjkkfaaGreat.mset A i j (mget A i j + (z : Rat))) a b = (y : Rat) ∧ y.natAbs ≤ B + 1 := by
  obtain ⟨x, hx, hb⟩ := h i j
  obtain ⟨y, hy, hc⟩ := h a b
  rw [mget_mset]
  split
  · exact ⟨x + z, by rw [hx, Rat.intCast_add], by omega⟩
  · exact ⟨y, hy, by omega⟩
theorem Wholes.up {A : List (List Rat)} {B C : Nat} (h : Wholes A B) (hc : B ≤ C) : Wholes A C := fun i j => by
  obtain ⟨z, h1, h2⟩ := h i j; exact ⟨z, h1, by omega⟩
theorem lapStep_ok {N : Nat} {M : List (List Rat)} {B : Nat} (hd : Dim M N N) (hw : Wholes M B) (p0 p1 : Nat) : Dim (lapStep N M p0 p1) N N ∧ Wholes (lapStep N M p0 p1) (B + 2) := by
  unfold lapStep
  split
  · exact ⟨hd, hw.up (by omega)⟩
  · have h1 : Wholes (mset M p0 p0 (mget M p0 p0 + 1)) (B + 1) := hw.mset p0 p0 1 (by decide)
    split
    · exact ⟨(hd.mset _ _ _).mset _ _ _, h1.mset p0 p1 (-1) (by decide)⟩
    · exact ⟨hd.mset _ _ _, h1.up (by omega)⟩
theorem RatLen.int (z : Int) {B : Nat} (h : z.natAbs ≤ B) (hB : B < 4294967296) : RatLen (z : Rat) 4398046511104 := by
  have h1 : (limbs z.natAbs).length ≤ 1 := limbs_length_le (by omega)
  have h2 : (limbs 1).length ≤ 1 := limbs_length_le (by omega)
  exact ⟨by rw [Rat.num_intCast]; omega, by rw [Rat.den_intCast]; omega⟩
theorem Wholes.len {A : List (List Rat)} {B : Nat} (h : Wholes A B) (hB : B < 4294967296) (i j : Nat) : RatLen (mget A i j) 4398046511104 := by
  obtain ⟨z, h1, h2⟩ := h i j; rw [h1]; exact RatLen.int z h2 hB

theorem run_index154 {W : World} {g k : Nat} {a : Act} {t : Tmp} {dst : Option Tmp} {ty : TypeId} {pos : String} {after : Array Edge} {guard : Option (Nat × Bool)}
    (hx : a.eval (.tmp t) = .pointer (some ⟨g, 0, none⟩)) (hk : k < 2) : (execOp a.eval { dst, op := .indexAddr 154 (.tmp t) (.const (.int .i64 (k : Int))), type := ty, pos, after, guard }).run Tryz.prog W = .ok (.value (.pointer (some ⟨g, k, none⟩))) W := by
  have h2 : k = 0 ∨ k = 1 := by omega
  have g : a.tmps[t]?.getD undef = .pointer (some ⟨g, 0, none⟩) := by have h := hx; simp only [Act.eval, Array.getD_eq_getD_getElem?] at h; exact h
  rcases h2 with rfl | rfl <;> simp [go_sem, execOp, g]

theorem wpList_append_run {P : Program} {w w' : World} {v dv sv : Value} {ops : Array Oper} {rest : List Oper} {o : Oper} {a : Act} {Q : Exit → Act → World → Prop} (hgd : o.guard = none) (d s : Operand) (dT sT : TypeId)
    (ho : o.op = .call { callee := .builtin .append, args := #[d, s], argTypes := #[dT, sT] }) (hd : a.eval d = dv) (hs : a.eval s = sv) (hrun : (Builtin.append_ #[dT, sT] o.type #[dv, sv]).run P w = .ok v w')
    (h : wpList P ops Q rest (a.put o.dst v) w') : wpList P ops Q (o :: rest) a w := by
  refine wpList_plain hgd fun K hK => ?_
  unfold Oper.wp
  simp [execOp, ho, resolve, invoke, builtin, hd, hs, hrun, Result.andThen]
  exact hK _ _ h
def ValidW (n : Nat) (p : Pr) : Prop := 0 ≤ p.1 ∧ p.1 < n ∧ 0 ≤ p.2 ∧ p.2 < n ∧ p.1 ≠ p.2

set_option maxRecDepth 100000 in
set_option maxHeartbeats 8000000 in
theorem heights_ok (v : Value) (n : Nat) (ps : List Pr) (w : World) (hv : Prs w v ps) (h24 : ps.length ≤ 24) (hn : 2 ≤ n) (hn2 : n ≤ 25) (hps : ∀ p ∈ ps, ValidW n p) (hcon : ∀ i : Nat, i < n → Reach ps (i : Int))
    (ht : TriOk (augPart (lap (n - 1) ps) (rhs (n - 1)) (n - 1)) (n - 1) (n - 1 + 1) 4398046511104) (hk : BackOk (elimTo (augPart (lap (n - 1) ps) (rhs (n - 1)) (n - 1)) (n - 1)) (n - 1) 4398046511104) :
    Calls Tryz.prog 59 #[.int .i64 (n : Int), v] w fun e w' => ∃ u, e = .returned (.tuple #[u, .int .i64 0]) ∧ Rats w' u (hts n ps) ∧ Ext w w' := by
  have HV := hide hv
  obtain ⟨A, cap, rfl, hcap, hm, hrd⟩ := hv
  have HRD := hide hrd; have HPs := hide hps; have HT := hide ht; have HK := hide hk
  have HCon := fun W (hP : Prs W (.slice A ps.length cap) ps) => connected_any _ n ps W hP (by omega) (by omega) (fun p hp => ⟨(hps p hp).1, (hps p hp).2.1, (hps p hp).2.2.1, (hps p hp).2.2.2.1⟩)
  replace HCon := hide HCon
  have HCo2 := hide hcon
  have t1 : decide ((ps.length : Int) > 24) = false := by simp; omega
  have t2 : decide ((n : Int) < 2) = false := by simp; omega
  have t3 : decide ((n : Int) > 25) = false := by simp; omega
  clear hrd hps ht hk hcon
  go_enter Tryz.func59, Tryz.ntmps59
  go_wp2_with fail
  go_loopw [25] (fun s wr => ∃ (k : Nat), k ≤ ps.length ∧ s = .int .i64 (k : Int) ∧ Ext w wr) (fun s _ => ps.length - (intOf s).toNat)
  case atStart => exact ⟨0, Nat.zero_le _, rfl, Ext.rfl' _⟩
  case round =>
    obtain ⟨k, hk, rfl, hE⟩ := hrel
    have HE := hide hE
    clear hE
    by_cases hlt : k < ps.length
    · obtain ⟨b, off, rfl, hbt, hc⟩ := Prs.at HRD.out hlt
      obtain ⟨a0, a1⟩ := hc k hlt
      have hpm : ps.getD k (0, 0) ∈ ps := by rw [List.getD, List.getElem?_eq_getElem hlt]; exact List.getElem_mem hlt
      obtain ⟨⟨x, y⟩, hp⟩ : ∃ p, ps.getD k (0, 0) = p := ⟨_, rfl⟩
      rw [hp] at a0 a1 hpm
      obtain ⟨hx0, hxn, hy0, hyn, hne⟩ := HPs.out _ hpm
      simp only [] at hx0 hxn hy0 hyn hne a0 a1
      have b0 : wr.cell? ⟨b, off + k * 2, none⟩ = some (.int .i64 x) := (HE.out.cell (p := ⟨b, off + k * 2, none⟩) hbt.lt).trans a0
      have b1 : wr.cell? ⟨b, off + k * 2 + 1, none⟩ = some (.int .i64 y) := (HE.out.cell (p := ⟨b, off + k * 2 + 1, none⟩) hbt.lt).trans a1
      have g1 : decide (min x y < 0) = false := by simp; omega
      have g2 : decide (max x y ≥ (n : Int)) = false := by simp; omega
      have g3 : (x == y) = false := by simpa using hne
      clear hc a0 a1 hp hpm hne
      go_wp2_with fail
      go_roundw
      case rel => exact ⟨k + 1, by omega, by go_num, HE.out.tr ((Below.refl _ _).alloc (Nat.le_refl _) _)⟩
      case measure => simp [intOf]; omega
    · obtain rfl : k = ps.length := by omega
      go_wp2_with fail
      refine (HCon.out wr (HV.out.ext HE.out)).mono ?_
      rintro e w1 ⟨cb, rfl, hcb, E1⟩
      have hcb' : cb = true := hcb.2 HCo2.out
      subst hcb'
      have HE1 := hide (HE.out.tr E1)
      clear hcb E1 HCon
      obtain ⟨N, hN⟩ : ∃ N, n - 1 = N := ⟨_, rfl⟩
      have hnN : (n : Int) - 1 = (N : Int) := by omega
      have HnN := hide hnN
      rw [hN] at HT HK
      have hN1 : 1 ≤ N := by omega
      have hN2 : N ≤ 24 := by omega
      have HN := hide hN
      clear hN
      go_wp2_with fail
      refine (zero_any N w1 hN1 (by omega)).mono ?_
      rintro e w2 ⟨gm, gs, caps, rfl, hM, hgs, hcaps, E2⟩
      have HM := hide hM; have HCaps := hide hcaps; have HGs := hide hgs; have HE2 := hide (HE1.out.tr E2)
      have hsz2 := E2.size
      have hszw := HE1.out.size
      clear hM hgs hcaps E2
      go_wp2_with fail
      go_loopw [63] (fun s wr => ∃ (k : Nat) (M : List (List Rat)), k ≤ ps.length ∧ s = .int .i64 (k : Int) ∧ M = (ps.take k).foldl (lapWire N) (zeros N) ∧ Dim M N N ∧ Wholes M (4 * k) ∧ IsMat wr gm gs caps M ∧ Ext w wr) (fun s _ => ps.length - (intOf s).toNat)
      case atStart =>
        refine ⟨0, zeros N, Nat.zero_le _, rfl, rfl, ⟨by simp [zeros], fun k hk => by rw [zeros_get hk]; simp⟩, fun i j => ⟨0, ?_, by simp⟩, HM.out, HE2.out⟩
        unfold mget
        by_cases hi : i < N
        · rw [zeros_get hi]
          by_cases hj : j < N
          · simp [List.getD, hj]
          · simp [List.getD, hj]
        · simp [zeros, List.getD, hi]
      case round =>
        obtain ⟨k, M, hk, rfl, hMe, hd, hw, hmt, hE⟩ := hrel
        have HMe := hide hMe; have HD := hide hd; have HW := hide hw; have HMt := hide hmt; have HE3 := hide hE
        clear hMe hd hw hmt hE
        obtain ⟨w3, hw3⟩ : ∃ w0, w0 = wr := ⟨_, rfl⟩
        subst hw3
        by_cases hlt : k < ps.length
        · obtain ⟨b, off, rfl, hbt, hc⟩ := Prs.at HRD.out hlt
          obtain ⟨a0, a1⟩ := hc k hlt
          have hpm : ps.getD k (0, 0) ∈ ps := by rw [List.getD, List.getElem?_eq_getElem hlt]; exact List.getElem_mem hlt
          have htk : ps.take (k + 1) = ps.take k ++ [ps.getD k (0, 0)] := by rw [List.take_succ_eq_append_getElem hlt, List.getD, List.getElem?_eq_getElem hlt]; rfl
          obtain ⟨⟨x, y⟩, hp⟩ : ∃ p, ps.getD k (0, 0) = p := ⟨_, rfl⟩
          rw [hp] at a0 a1 hpm htk
          obtain ⟨hx0, hxn, hy0, hyn, hne⟩ := HPs.out _ hpm
          obtain ⟨x, rfl⟩ : ∃ m : Nat, x = m := ⟨x.toNat, by simp only [] at hx0; omega⟩
          obtain ⟨y, rfl⟩ : ∃ m : Nat, y = m := ⟨y.toNat, by simp only [] at hy0; omega⟩
          simp only [] at hx0 hxn hy0 hyn hne a0 a1
          have b0 : w3.cell? ⟨b, off + k * 2, none⟩ = some (.int .i64 (x : Int)) := (HE3.out.cell (p := ⟨b, off + k * 2, none⟩) hbt.lt).trans a0
          have b1 : w3.cell? ⟨b, off + k * 2 + 1, none⟩ = some (.int .i64 (y : Int)) := (HE3.out.cell (p := ⟨b, off + k * 2 + 1, none⟩) hbt.lt).trans a1
          have HTk := hide htk; have HNe := hide hne
          have hxN : x ≤ N := by omega
          have hyN : y ≤ N := by omega
          clear hc a0 a1 hp hpm htk hx0 hxn hy0 hyn hne
          go_wp2_with fail
          have hEa : Ext w3 ((w3.alloc (.cells #[.int .i64 (x : Int), .int .i64 (y : Int)] 40)).alloc (.cells #[.int .i64 (x : Int), .int .i64 (y : Int), .int .i64 (y : Int), .int .i64 (x : Int)] 154)) := ((Below.refl _ _).alloc (Nat.le_refl _) _).alloc (by simp) _
          obtain ⟨ga, hga⟩ : ∃ g, w3.heap.size + 1 = g := ⟨_, rfl⟩
          have hBa : Blk ((w3.alloc (.cells #[.int .i64 (x : Int), .int .i64 (y : Int)] 40)).alloc (.cells #[.int .i64 (x : Int), .int .i64 (y : Int), .int .i64 (y : Int), .int .i64 (x : Int)] 154)) ga 154 #[.int .i64 (x : Int), .int .i64 (y : Int), .int .i64 (y : Int), .int .i64 (x : Int)] := Blk.new' _ _ _ _ (by rw [← hga]; simp)
          have HM4 := hide (HMt.out.ext hEa)
          have HE4 := hide (HE3.out.tr hEa)
          have HBa := hide hBa
          rw [hga]
          generalize (w3.alloc (.cells #[.int .i64 (x : Int), .int .i64 (y : Int)] 40)).alloc (.cells #[.int .i64 (x : Int), .int .i64 (y : Int), .int .i64 (y : Int), .int .i64 (x : Int)] 154) = w4 at HM4 HE4 HBa ⊢
          clear hEa hBa hga b0 b1
          go_loopw [79] (fun s wr => ∃ (q : Nat) (M2 : List (List Rat)), q ≤ 2 ∧ s = .int .i64 (q : Int) ∧ M2 = lapHalf N M x y q ∧ Dim M2 N N ∧ Wholes M2 (4 * k + 2 * q) ∧ IsMat wr gm gs caps M2 ∧ Blk wr ga 154 #[.int .i64 (x : Int), .int .i64 (y : Int), .int .i64 (y : Int), .int .i64 (x : Int)] ∧ Ext w wr) (fun s _ => 2 - (intOf s).toNat)
          case atStart => exact ⟨0, M, by omega, rfl, rfl, HD.out, HW.out, HM4.out, HBa.out, HE4.out⟩
          case round =>
            obtain ⟨q, M2, hq, rfl, hM2, hd, hw, hmt, hba, hE⟩ := hrel
            have HM2 := hide hM2; have HD2 := hide hd; have HW2 := hide hw; have HMt2 := hide hmt; have HBa2 := hide hba; have HE5 := hide hE
            clear hM2 hd hw hmt hba hE
            obtain ⟨w5, hw5⟩ : ∃ w0, w0 = wr := ⟨_, rfl⟩
            subst hw5
            by_cases hq2 : q < 2
            · obtain ⟨p0, p1, hc0, hc1, hs, hb0, hb1⟩ : ∃ p0 p1 : Nat, w5.cell? ⟨ga, q * 2, none⟩ = some (.int .i64 (p0 : Int)) ∧ w5.cell? ⟨ga, q * 2 + 1, none⟩ = some (.int .i64 (p1 : Int)) ∧ lapHalf N M x y (q + 1) = lapStep N (lapHalf N M x y q) p0 p1 ∧ p0 ≤ N ∧ p1 ≤ N := by
                have h : q = 0 ∨ q = 1 := by omega
                rcases h with rfl | rfl
                · exact ⟨x, y, HBa2.out.cell 0, HBa2.out.cell 1, rfl, hxN, hyN⟩
                · exact ⟨y, x, HBa2.out.cell 2, HBa2.out.cell 3, rfl, hyN, hxN⟩
              have HS := hide hs
              clear hs
              by_cases hp0 : p0 = N
              · have g1 : ((p0 : Int) == (N : Int)) = true := by simp [hp0]
                have HP0 := hide hp0
                clear hp0
                go_wp2_with fail
                go_roundw
                case rel =>
                  have hst : lapHalf N M x y (q + 1) = M2 := by rw [HS.out, ← HM2.out, lapStep, if_pos HP0.out]
                  have hEa := (Below.refl w5.heap.size w5).alloc (Nat.le_refl _) (.cells #[.int .i64 (p0 : Int), .int .i64 (p1 : Int)] 154)
                  exact ⟨q + 1, M2, by omega, by go_num, hst.symm, HD2.out, HW2.out.up (by omega), HMt2.out.ext hEa, HBa2.out.ext hEa, HE5.out.tr hEa⟩
                case measure => simp [intOf]; omega
              · have g1 : ((p0 : Int) == (N : Int)) = false := by simp; omega
                have hp0N : p0 < N := by omega
                have HP0 := hide hp0
                clear hp0
                go_wp2_with fail
                have hEa : Ext w5 (w5.alloc (.cells #[.int .i64 (p0 : Int), .int .i64 (p1 : Int)] 154)) := (Below.refl _ _).alloc (Nat.le_refl _) _
                obtain ⟨gp, hgp⟩ : ∃ g, w5.heap.size = g := ⟨_, rfl⟩
                have HBp := hide (show Blk (w5.alloc (.cells #[.int .i64 (p0 : Int), .int .i64 (p1 : Int)] 154)) gp 154 #[.int .i64 (p0 : Int), .int .i64 (p1 : Int)] from Blk.new' _ _ _ _ hgp.symm)
                have HM6 := hide (HMt2.out.ext hEa)
                have HB6 := hide (HBa2.out.ext hEa)
                have HE6 := hide (HE5.out.tr hEa)
                rw [hgp]
                generalize w5.alloc (.cells #[.int .i64 (p0 : Int), .int .i64 (p1 : Int)] 154) = wz at HBp HM6 HB6 HE6 ⊢
                clear hEa hgp hc0 hc1
                obtain ⟨Gs, hGs⟩ : ∃ Gs : List (Value → World → Prop), Gs = [(fun v _ => v = .slice (some ⟨gm, 0, none⟩) N N), (fun v _ => v = .pointer (some ⟨gp, 0, none⟩)), (fun v _ => v = .int .i64 (p0 : Int)), (fun v _ => v = .pointer (some ⟨gp, 0, none⟩)), (fun v _ => v = .int .i64 (p0 : Int)), (fun v W => IsRat W v (((1 : Int) : Rat)))] := ⟨_, rfl⟩
                have hst : Flow.Stay Ext Gs := by rw [hGs]; exact (Flow.Stay.cons (fun _ _ _ _ h => h) (Flow.Stay.cons (fun _ _ _ _ h => h) (Flow.Stay.cons (fun _ _ _ _ h => h) (Flow.Stay.cons (fun _ _ _ _ h => h) (Flow.Stay.cons (fun _ _ _ _ h => h) (Flow.Stay.cons (fun _ _ E _ h => IsRat.ext h E) Flow.Stay.nil))))))
                refine Flow.wp_region_flow 6 (by kernel_rfl) (fun W => Ext wz W) Gs (by kernel_rfl) (Ext.rfl' wz).drew ?flowsteps ?flowend
                case flowsteps =>
                  refine ⟨?_, ?_, ?_, ?_, ?_, ?_, trivial⟩
                  · refine Flow.step_val rfl fun a W hb hI hd => ?_
                    have h8 : a.eval (.tmp 8) = .slice (some ⟨gm, 0, none⟩) N N := hb.pre' 8 (by kernel_rfl)
                    exact ⟨_, rfl, by rw [hGs]; exact h8⟩
                  · refine Flow.step_val rfl fun a W hb hI hd => ?_
                    have h12 : a.eval (.tmp 12) = .pointer (some ⟨gp, 0, none⟩) := hb.pre' 12 (by kernel_rfl)
                    exact ⟨_, run_index154 (k := 0) h12 (by decide), by rw [hGs]; rfl⟩
                  · refine Flow.step_val rfl fun a W hb hI hd => ?_
                    have h89 : a.eval (.tmp 89) = .pointer (some ⟨gp, 0, none⟩) := by have h := hd _ (Array.mem_of_getElem? (i := 0) rfl) rfl; rw [hGs] at h; exact h
                    exact ⟨_, run_load1 h89 (by have h := (HBp.out.ext hI).cell 0; exact h), by rw [hGs]; rfl⟩
                  · refine Flow.step_val rfl fun a W hb hI hd => ?_
                    have h12 : a.eval (.tmp 12) = .pointer (some ⟨gp, 0, none⟩) := hb.pre' 12 (by kernel_rfl)
                    exact ⟨_, run_index154 (k := 0) h12 (by decide), by rw [hGs]; rfl⟩
                  · refine Flow.step_val rfl fun a W hb hI hd => ?_
                    have h91 : a.eval (.tmp 91) = .pointer (some ⟨gp, 0, none⟩) := by have h := hd _ (Array.mem_of_getElem? (i := 0) rfl) rfl; rw [hGs] at h; exact h
                    exact ⟨_, run_load1 h91 (by have h := (HBp.out.ext hI).cell 0; exact h), by rw [hGs]; rfl⟩
                  · refine Flow.step_call rfl fun a W hb hI hd => ?_
                    refine ⟨107, #[a.eval (.const (Go.Value.int Go.IntKind.i64 1))], Flow.run_enter (enters_of Tryz.func107 (by kernel_rfl) rfl) (by simp), ?_⟩
                    rw [BigFrame.eval_const]
                    refine (whole_any (1) W (by decide) (by decide)).mono ?_
                    rintro e w' ⟨v, rfl, hm, hE⟩
                    exact ⟨v, rfl, by rw [hGs]; exact hm, hI.tr hE, hst.at hE⟩
                case flowend =>
                  rw [hGs]
                  refine fun W hI v0 h0 v1 h1 v2 h2 v3 h3 v4 h4 v5 h5 => ?_
                  obtain rfl : .slice (some ⟨gm, 0, none⟩) N N = v0 := Eq.symm h0; clear h0
                  obtain rfl : .pointer (some ⟨gp, 0, none⟩) = v1 := Eq.symm h1; clear h1
                  obtain rfl : .int .i64 (p0 : Int) = v2 := Eq.symm h2; clear h2
                  obtain rfl : .pointer (some ⟨gp, 0, none⟩) = v3 := Eq.symm h3; clear h3
                  obtain rfl : .int .i64 (p0 : Int) = v4 := Eq.symm h4; clear h4
                  replace h5 : (fun v W => IsRat W v (((1 : Int) : Rat))) v5 W := h5
                  clear hst hGs
                  show wpList _ _ _ _ _ _
                  simp only [List.drop_succ_cons, List.drop_zero, Act.put, List.setIfInBounds_toArray, List.set_cons_zero, List.set_cons_succ]
                  have hgw : w.heap.size ≤ gs p0 := by have := HGs.out (gs p0) (.inr ⟨p0, hp0N, rfl⟩); omega
                  have hpM : p0 < M2.length := by rw [HD2.out.1]; exact hp0N
                  have hty := ((HM6.out.ext hI).row hpM).ty
                  have HAdd := hide (madd_any gm N N p0 p0 gs caps M2 v5 ((1 : Int) : Rat) W (HM6.out.ext hI) HD2.out.1 hp0N (by rw [HD2.out.2 p0 hp0N]; exact hp0N) h5 (HW2.out.len (by omega) p0 p0) (RatLen.int 1 (B := 1) (by decide) (by decide)))
                  go_wp2_with fail
                  refine HAdd.out.mono ?_
                  rintro e w7 ⟨rfl, hm7, hk7⟩
                  have HM7 := hide hm7
                  have HB7 := hide ((HB6.out.ext hI).keep hk7 (fun e => (HB6.out.ext hI).ty.ne hty (by decide) e))
                  have HBp7 := (HBp.out.ext hI).keep hk7 (fun e => (HBp.out.ext hI).ty.ne hty (by decide) e)
                  have HE7 := hide (hk7.ext_of (HE6.out.tr hI) (fun i hi => by rw [hi]; exact hgw))
                  have d0 := HBp7.cell 0
                  have d1 := HBp7.cell 1
                  simp at d0 d1
                  have HD7 := hide (HD2.out.mset p0 p0 (mget M2 p0 p0 + ((1 : Int) : Rat)))
                  have HW7 : Hid (Wholes (mset M2 p0 p0 (mget M2 p0 p0 + ((1 : Int) : Rat))) (4 * k + 2 * q + 1)) := HW2.out.mset p0 p0 1 (by decide)
                  have HBp := hide HBp7
                  clear hm7 hk7 HAdd HBp7
                  by_cases hp1 : p1 < N
                  · have HP1 := hide hp1
                    obtain ⟨wz, hwz⟩ : ∃ w0, w0 = w7 := ⟨_, rfl⟩
                    subst hwz
                    go_wp2_with fail
                    obtain ⟨Gs, hGs⟩ : ∃ Gs : List (Value → World → Prop), Gs = [(fun v _ => v = .slice (some ⟨gm, 0, none⟩) N N), (fun v _ => v = .pointer (some ⟨gp, 0, none⟩)), (fun v _ => v = .int .i64 (p0 : Int)), (fun v _ => v = .pointer (some ⟨gp, 1, none⟩)), (fun v _ => v = .int .i64 (p1 : Int)), (fun v W => IsRat W v (((-1 : Int) : Rat)))] := ⟨_, rfl⟩
                    have hst : Flow.Stay Ext Gs := by rw [hGs]; exact (Flow.Stay.cons (fun _ _ _ _ h => h) (Flow.Stay.cons (fun _ _ _ _ h => h) (Flow.Stay.cons (fun _ _ _ _ h => h) (Flow.Stay.cons (fun _ _ _ _ h => h) (Flow.Stay.cons (fun _ _ _ _ h => h) (Flow.Stay.cons (fun _ _ E _ h => IsRat.ext h E) Flow.Stay.nil))))))
                    refine Flow.wp_region_flow 6 (by kernel_rfl) (fun W => Ext wz W) Gs (by kernel_rfl) (Ext.rfl' wz).drew ?flowsteps ?flowend
                    case flowsteps =>
                      refine ⟨?_, ?_, ?_, ?_, ?_, ?_, trivial⟩
                      · refine Flow.step_val rfl fun a W hb hI hd => ?_
                        have h8 : a.eval (.tmp 8) = .slice (some ⟨gm, 0, none⟩) N N := hb.pre' 8 (by kernel_rfl)
                        exact ⟨_, rfl, by rw [hGs]; exact h8⟩
                      · refine Flow.step_val rfl fun a W hb hI hd => ?_
                        have h12 : a.eval (.tmp 12) = .pointer (some ⟨gp, 0, none⟩) := hb.pre' 12 (by kernel_rfl)
                        exact ⟨_, run_index154 (k := 0) h12 (by decide), by rw [hGs]; rfl⟩
                      · refine Flow.step_val rfl fun a W hb hI hd => ?_
                        have h101 : a.eval (.tmp 101) = .pointer (some ⟨gp, 0, none⟩) := by have h := hd _ (Array.mem_of_getElem? (i := 0) rfl) rfl; rw [hGs] at h; exact h
                        exact ⟨_, run_load1 h101 (by have h := (HBp.out.ext hI).cell 0; exact h), by rw [hGs]; rfl⟩
                      · refine Flow.step_val rfl fun a W hb hI hd => ?_
                        have h12 : a.eval (.tmp 12) = .pointer (some ⟨gp, 0, none⟩) := hb.pre' 12 (by kernel_rfl)
                        exact ⟨_, run_index154 (k := 1) h12 (by decide), by rw [hGs]; rfl⟩
                      · refine Flow.step_val rfl fun a W hb hI hd => ?_
                        have h103 : a.eval (.tmp 103) = .pointer (some ⟨gp, 1, none⟩) := by have h := hd _ (Array.mem_of_getElem? (i := 0) rfl) rfl; rw [hGs] at h; exact h
                        exact ⟨_, run_load1 h103 (by have h := (HBp.out.ext hI).cell 1; exact h), by rw [hGs]; rfl⟩
                      · refine Flow.step_call rfl fun a W hb hI hd => ?_
                        refine ⟨107, #[a.eval (.const (Go.Value.int Go.IntKind.i64 (-1)))], Flow.run_enter (enters_of Tryz.func107 (by kernel_rfl) rfl) (by simp), ?_⟩
                        rw [BigFrame.eval_const]
                        refine (whole_any (-1) W (by decide) (by decide)).mono ?_
                        rintro e w' ⟨v, rfl, hm, hE⟩
                        exact ⟨v, rfl, by rw [hGs]; exact hm, hI.tr hE, hst.at hE⟩
                    case flowend =>
                      rw [hGs]
                      refine fun W hI v0 h0 v1 h1 v2 h2 v3 h3 v4 h4 v5 h5 => ?_
                      obtain rfl : .slice (some ⟨gm, 0, none⟩) N N = v0 := Eq.symm h0; clear h0
                      obtain rfl : .pointer (some ⟨gp, 0, none⟩) = v1 := Eq.symm h1; clear h1
                      obtain rfl : .int .i64 (p0 : Int) = v2 := Eq.symm h2; clear h2
                      obtain rfl : .pointer (some ⟨gp, 1, none⟩) = v3 := Eq.symm h3; clear h3
                      obtain rfl : .int .i64 (p1 : Int) = v4 := Eq.symm h4; clear h4
                      replace h5 : (fun v W => IsRat W v (((-1 : Int) : Rat))) v5 W := h5
                      clear hst hGs
                      show wpList _ _ _ _ _ _
                      simp only [List.drop_succ_cons, List.drop_zero, Act.put, List.setIfInBounds_toArray, List.set_cons_zero, List.set_cons_succ]
                      have HAdd := hide (madd_any gm N N p0 p1 gs caps _ v5 (((-1 : Int)) : Rat) W (HM7.out.ext hI) HD7.out.1 hp0N (by rw [HD7.out.2 p0 hp0N]; exact hp1) h5 (HW7.out.len (by omega) p0 p1) (RatLen.int (-1) (B := 1) (by decide) (by decide)))
                      have hty2 := ((HM7.out.ext hI).row (by rw [HD7.out.1]; exact hp0N)).ty
                      go_wp2_with fail
                      refine HAdd.out.mono ?_
                      rintro e w8 ⟨rfl, hm8, hk8⟩
                      have HM8 := hide hm8
                      have HB8 := hide ((HB7.out.ext hI).keep hk8 (fun e => (HB7.out.ext hI).ty.ne hty2 (by decide) e))
                      have HE8 := hide (hk8.ext_of (HE7.out.tr hI) (fun i hi => by rw [hi]; exact hgw))
                      clear hm8 hk8 HAdd
                      go_wp2_with fail
                      go_roundw
                      case rel =>
                        refine ⟨q + 1, _, by omega, by go_num, ?_, HD7.out.mset _ _ _, ?_, HM8.out, HB8.out, HE8.out⟩
                        · rw [HS.out, ← HM2.out, lapStep, if_neg HP0.out, if_pos HP1.out]; rfl
                        · have h := HW7.out.mset p0 p1 (-1) (by decide)
                          exact h
                      case measure => simp [intOf]; omega
                  · have HP1 := hide hp1
                    go_wp2_with fail
                    go_roundw
                    case rel =>
                      refine ⟨q + 1, _, by omega, by go_num, ?_, HD7.out, HW7.out.up (by omega), HM7.out, HB7.out, HE7.out⟩
                      rw [HS.out, ← HM2.out, lapStep, if_neg HP0.out, if_neg HP1.out]; rfl
                    case measure => simp [intOf]; omega
            · obtain rfl : q = 2 := by omega
              go_wp2_with fail
              go_roundw
              case rel =>
                refine ⟨k + 1, _, by omega, by go_num, ?_, HD2.out, HW2.out, HMt2.out, HE5.out⟩
                rw [HTk.out, List.foldl_append, ← HMe.out, HM2.out]
                show _ = lapWire N M ((x : Int), (y : Int))
                unfold lapWire
                simp only [Int.toNat_natCast]
                rfl
              case measure => simp [intOf]; omega
        · obtain rfl : k = ps.length := by omega
          have hMl : M = lap N ps := by rw [HMe.out, List.take_length]; rfl
          have HMl := hide hMl
          clear hMl
          go_wp2_with fail
          refine (whole_any 0 w3 (by decide) (by decide)).mono ?_
          rintro e w4 ⟨v, rfl, hv, E4⟩
          obtain ⟨r0, r1, r2, r3, rfl, HV4, o0, o1, o2, o3⟩ := hv.cells4
          have hone := HV4.out.ones
          replace o0 := st_any o0
          replace o1 := st_any o1
          replace o2 := st_any o2
          replace o3 := st_any o3
          clear hv
          go_wp2_with fail
          have hEa : Ext w4 (w4.alloc (.cells #[r0, r1, r2, r3] 113)) := (Below.refl _ _).alloc (Nat.le_refl _) _
          have hBa : Blk (w4.alloc (.cells #[r0, r1, r2, r3] 113)) w4.heap.size 113 (r4cells (r0, r1, r2, r3)).toArray := Blk.new _ _ _
          have hla := hBa.lt
          generalize w4.alloc (.cells #[r0, r1, r2, r3] 113) = w5 at hEa hBa hla ⊢
          refine (repeat_any w4.heap.size 0 1 N (r0, r1, r2, r3) w5 (cell4_of hBa) hone hla hN1 (by omega)).mono ?_
          rintro e w6 ⟨gb, rfl, hgb, hBb, E6⟩
          have hrow : RRow w6 gb N (List.replicate N 0) := RRow.of_rep hBb ((HV4.out.ext hEa).ext E6) (by omega)
          have HM6 := hide ((HMt.out.ext E4).ext (hEa.tr E6))
          have HE6 := hide ((HE3.out.tr E4).tr (hEa.tr E6))
          have HRow := hide hrow
          have hgbw : w.heap.size ≤ gb := Nat.le_trans ((HE3.out.tr E4).tr hEa).size hgb
          have hgbM : ¬ MatB gm gs N gb := fun hb => by
            rcases hb with h | ⟨i, hi, h⟩
            · have := ((HMt.out.ext E4).ext hEa).ty.lt; omega
            · have := (((HMt.out.ext E4).ext hEa).row (i := i) (by rw [HD.out.1]; exact hi)).ty.lt; omega
          have HGbM := hide hgbM
          clear hBa hBb hrow hone hEa E4 E6 hla hgb HV4 hgbM o0 o1 o2 o3
          go_wp2_with fail
          refine (whole_any 1 w6 (by decide) (by decide)).mono ?_
          rintro e w7 ⟨v, rfl, hv, E7⟩
          obtain ⟨s0, s1, s2, s3, rfl, HV7, o0, o1, o2, o3⟩ := hv.cells4
          replace o0 := st_any o0
          replace o1 := st_any o1
          replace o2 := st_any o2
          replace o3 := st_any o3
          have hr7 := HRow.out.ext E7
          obtain ⟨⟨x0, x1, x2, x3⟩, ⟨c0, c1, c2, c3⟩, _⟩ := hr7.at (j := 0) (by simp; omega)
          simp only [Nat.zero_mul] at c0 c1 c2 c3
          have f0 := hr7.frozen 0
          have f1 := hr7.frozen 1
          have f2 := hr7.frozen 2
          have f3 := hr7.frozen 3
          have hput := hr7.put (k := 0) (by simp; omega) HV7.out
          simp only [Nat.zero_mul] at hput
          have hM8 := (HM6.out.ext E7).keep (Keep.rput4 (S := fun b => b = gb) (o := 0) (Keep.refl _ w7) (.inl rfl) (s0, s1, s2, s3)) (fun b hb hB => HGbM.out (by rw [← hb]; rw [← HD.out.1]; exact hB)) (fun b hb => ⟨113, by rw [hb]; exact hr7.ty, by decide⟩)
          have hE8 := (HE6.out.tr E7).rput4 hgbw 0 (s0, s1, s2, s3)
          obtain ⟨w8, hw8, hw8'⟩ : ∃ w8, (((w7.setCell ⟨gb, 0, none⟩ s0).setCell ⟨gb, 1, none⟩ s1).setCell ⟨gb, 2, none⟩ s2).setCell ⟨gb, 3, none⟩ s3 = w8 ∧ w8 = rput4 w7 gb 0 (s0, s1, s2, s3) := ⟨_, rfl, rfl⟩
          rw [← hw8'] at hput hM8 hE8
          have HP8 := hide hput; have HM8 := hide hM8; have HE8 := hide hE8
          clear hput hM8 hE8 hw8' hv hr7 E7
          go_wp2_with fail
          rw [← HMl.out] at HT HK
          have HSo := hide (solve_any gm N N gb N gs caps M (rhs N) w8 HM8.out HP8.out HD.out (by simp [rhs]) HCaps.out HGbM.out HT.out HK.out (by omega))
          refine HSo.out.mono ?_
          rintro e w9 ⟨gx, rfl, hgx, hrx, hkx⟩
          have hE9 := hkx.ext_of HE8.out (fun i hi => by have := HGs.out i hi; omega)
          have HR9 := hide hrx; have HE9 := hide hE9
          clear HSo hrx hkx hE9 c0 c1 c2 c3 f0 f1 f2 f3
          go_wp2_with fail
          refine (whole_any 0 w9 (by decide) (by decide)).mono ?_
          rintro e wa ⟨v, rfl, hv, Ea⟩
          obtain ⟨t0, t1', t2', t3', rfl, HVa, q0, q1, q2, q3⟩ := hv.cells4
          replace q0 := st_any q0
          replace q1 := st_any q1
          replace q2 := st_any q2
          replace q3 := st_any q3
          have hEb : Ext wa (wa.alloc (.cells #[t0, t1', t2', t3'] 113)) := (Below.refl _ _).alloc (Nat.le_refl _) _
          have hBb : Blk (wa.alloc (.cells #[t0, t1', t2', t3'] 113)) wa.heap.size 113 (r4cells (t0, t1', t2', t3')).toArray := Blk.new _ _ _
          have hlen : (solveR M (rhs N) N).length = N := backX_length _ _ _
          have hrr := (HR9.out.ext Ea).ext hEb
          obtain ⟨v', W', g', c', hrun, hv', hgg, hR', E'⟩ := hrr.grow hlen.symm (cp := 1) (cell4_of hBb) (HVa.out.ext hEb) (by omega) 105
          rw [hlen] at hrun hv'
          subst hv'
          have hrats := hR'.rats (by rw [List.length_append, hlen]; simp; omega)
          rw [List.length_append, hlen] at hrats
          have HRats := hide hrats
          have HEnd := hide (((HE9.out.tr Ea).tr hEb).tr E')
          have HHts : Hid (hts n ps = solveR M (rhs N) N ++ [((0 : Int) : Rat)]) := by
            show _ = _
            unfold hts
            rw [HN.out, HMl.out]; rfl
          clear hlen hrr hgg hR' E' hrats hBb hEb Ea hv HVa
          have HRun := hide hrun
          clear hrun
          go_wp2_with (at_builtin; refine wpList_append_run rfl (.tmp 119) (.tmp 121) 105 105 rfl rfl rfl HRun.out ?_)
          go_ret2
          exact ⟨_, rfl, by rw [HHts.out]; exact HRats.out, HEnd.out⟩

end Go.Proofs.YtncabodphjkkfaaGreat
