/- A row of fractions that are alike (slices.Repeat), a matrix of zeros. Conditions: none. -/
import Derived.Test.YtncabodphjkkfaaGreatM1
import Derived.Test.YtncabodphjkkfaaGreatShelf
import Derived.Test.YtncabodphjkkfaaGreatH4
import Derived.Laws.CopyRow
import Derived.Laws.CopyOwn
import Derived.IntWalk
namespace Go.Proofs.YtncabodphjkkfaaGreat
open Go.RowKit Go.Limbs Go.Shelf

/-- A copy within, or into, a row whose cells are known: elements of more than one cell. -/
theorem run_copy_rowN {P : Program} (w : World) (dT sT ty elem : TypeId) (g o dLen dCap : Nat) (a : Addr) (sLen sCap : Nat) (cur : Array Value) (t : TypeId) (cs : List Value) (size : Nat)
    (hu : P.underlying dT = some (.slice elem)) (hs : (P.info? elem).map (·.size) = some size)
    (hg : w.heap[g]? = some (.cells cur t (0, 0))) (hn : cs.length = Nat.min sLen dLen * size)
    (hsrc : ∀ j v, cs[j]? = some v → w.cell? (a.add j) = some v) (hfit : o + cs.length ≤ cur.size) (h1 : ∀ v ∈ cs, v.oneCell' = true) :
    (Builtin.copy_ #[dT, sT] ty #[.slice (some ⟨g, o, none⟩) dLen dCap, .slice (some a) sLen sCap]).run P w =
      .ok (goInt (Nat.min sLen dLen)) (w.setRow g (cur.toList.take o ++ cs ++ cur.toList.drop (o + cs.length)).toArray) := by
  have hl := run_loadCells_list (P := P) w a cs hsrc
  have hst := run_storeCells_at P g o t cs 0 cur w hg (by simpa using hfit) h1
  cases hq : P.info? elem with
  | none => simp [hq] at hs
  | some i =>
    have hi : i.size = size := by simpa [hq] using hs
    simp [Builtin.copy_, run_underlying hu, Builtin.lenOf, Builtin.firstCells, sizeOf, typeInfo, hq, hi, ← hn, hl, hst]

def z4 : R4 := (.bool false, .slice none 0 0, .bool false, .slice none 0 0)
/-- m times r, then zeros. -/
def rep4 (r : R4) (n m : Nat) : List R4 := List.replicate m r ++ List.replicate (n - m) z4
def repCells (r : R4) (n m : Nat) : Array Value := ((rep4 r n m).flatMap r4cells).toArray
theorem rep4_length (r : R4) {n m : Nat} (h : m ≤ n) : (rep4 r n m).length = n := by simp [rep4]; omega
theorem rep4_full (r : R4) (n : Nat) : rep4 r n n = List.replicate n r := by simp [rep4]
theorem repCells_size (r : R4) {n m : Nat} (h : m ≤ n) : (repCells r n m).size = n * 4 := by simp only [repCells, List.size_toArray]; rw [r4_length, rep4_length r h]
theorem flat_replicate_take (r : R4) (a b : Nat) (h : b ≤ a) (rest : List Value) : ((List.replicate a r).flatMap r4cells ++ rest).take (b * 4) = (List.replicate b r).flatMap r4cells := by
  obtain ⟨c, rfl⟩ : ∃ c, a = b + c := ⟨a - b, by omega⟩
  rw [← List.replicate_append_replicate, List.flatMap_append, List.append_assoc, List.take_left']
  rw [r4_length]; simp
theorem flat_replicate_drop (r : R4) (a b : Nat) (h : b ≤ a) : ((List.replicate a r).flatMap r4cells).drop (b * 4) = (List.replicate (a - b) r).flatMap r4cells := by
  obtain ⟨c, rfl⟩ : ∃ c, a = b + c := ⟨a - b, by omega⟩
  rw [← List.replicate_append_replicate, List.flatMap_append, List.drop_left' (by rw [r4_length]; simp)]
  simp

theorem Blk.setRow {w : World} {g : Nat} {t : TypeId} {cs : Array Value} (h : Blk w g t cs) (cs' : Array Value) : Blk (w.setRow g cs') g t cs' := setRow_heap w g cs cs' t _ h

theorem rep_list (r : R4) {n m j k : Nat} (h1 : m ≤ j) (h2 : j ≤ m + k) (h3 : m + k ≤ n) :
    ((rep4 r n j).flatMap r4cells).take (m * 4) ++ (List.replicate k r).flatMap r4cells ++ ((rep4 r n j).flatMap r4cells).drop (m * 4 + k * 4) = (rep4 r n (m + k)).flatMap r4cells := by
  have hl : ((List.replicate j r).flatMap r4cells).length = j * 4 := by rw [r4_length, List.length_replicate]
  unfold rep4
  rw [List.flatMap_append, flat_replicate_take r j m h1, List.drop_append, List.drop_of_length_le (by rw [hl]; omega), hl, List.nil_append,
    show m * 4 + k * 4 - j * 4 = (m + k - j) * 4 by omega, flat_replicate_drop z4 (n - j) (m + k - j) (by omega), show n - j - (m + k - j) = n - (m + k) by omega,
    List.flatMap_append, ← List.replicate_append_replicate, List.flatMap_append]

/-- The copy that goes on from m places that are filled, at a row with m' of them. -/
theorem rep_copy {W : World} {g n m j k : Nat} {r : R4} (hk : min m (n - m) = k) (hm : m ≤ n) (hB : Blk W g 113 (repCells r n j)) (hj : m ≤ j) (hjn : j ≤ n) (hj2 : j ≤ m + k) (c1 c2 : Nat) (ty : TypeId) (h1 : ∀ u ∈ r4cells r, u.oneCell' = true) :
    ∃ W', (Builtin.copy_ #[105, 105] ty #[.slice (some ⟨g, m * 4, none⟩) (n - m) c1, .slice (some ⟨g, 0, none⟩) m c2]).run Tryz.prog W = .ok (.int .i64 ((k : Nat) : Int)) W' ∧
      Blk W' g 113 (repCells r n (m + k)) ∧ Keep (fun b => b = g) W W' := by
  have hkm : k ≤ m := by omega
  have hkn : m + k ≤ n := by omega
  have hrun := run_copy_rowN (P := Tryz.prog) W 105 105 ty 113 g (m * 4) (n - m) c1 ⟨g, 0, none⟩ m c2 (repCells r n j) 113 ((List.replicate k r).flatMap r4cells) 4 Tryz.underlying105 (by kernel_rfl) hB
    (by rw [r4_length, List.length_replicate]; show _ = Nat.min m (n - m) * 4; rw [show Nat.min m (n - m) = k from hk])
    (fun i v hv => by
      have hi : i < k * 4 := by have := (List.getElem?_eq_some_iff.1 hv).1; rw [r4_length, List.length_replicate] at this; exact this
      rw [addr_add, hB.cell, Nat.zero_add, repCells, List.getElem?_toArray, rep4, List.flatMap_append, List.getElem?_append_left (by rw [r4_length, List.length_replicate]; omega), ← hv,
        ← flat_replicate_take r j k (by omega) [], List.append_nil, List.getElem?_take_of_lt hi])
    (by rw [r4_length, List.length_replicate, repCells_size r hjn]; omega)
    (fun v hv => by
      obtain ⟨x, hx, hv⟩ := List.mem_flatMap.1 hv
      rw [(List.mem_replicate.1 hx).2] at hv
      exact h1 v hv)
  have hmin : Nat.min m (n - m) = k := hk
  rw [hmin] at hrun
  refine ⟨_, hrun, ?_, ?_⟩
  · have e : ((repCells r n j).toList.take (m * 4) ++ (List.replicate k r).flatMap r4cells ++ (repCells r n j).toList.drop (m * 4 + ((List.replicate k r).flatMap r4cells).length)).toArray = repCells r n (m + k) := by
      rw [r4_length, List.length_replicate]
      exact congrArg List.toArray (rep_list r hj (by omega) hkn)
    rw [← e]
    exact hB.setRow _
  · exact ⟨rfl, rfl, rfl, by simp [World.setRow], fun i _ hne => setRow_other W g i _ (fun e => hne e)⟩

theorem wpList_copy_any {P : Program} {w w' : World} {v dv sv : Value} {ops : Array Oper} {rest : List Oper} {o : Oper} {a : Act} {Q : Exit → Act → World → Prop} (hgd : o.guard = none) (d s : Operand) (dT sT : TypeId)
    (ho : o.op = .call { callee := .builtin .copy, args := #[d, s], argTypes := #[dT, sT] }) (hd : a.eval d = dv) (hs : a.eval s = sv) (hrun : (Builtin.copy_ #[dT, sT] o.type #[dv, sv]).run P w = .ok v w')
    (h : wpList P ops Q rest (a.put o.dst v) w') : wpList P ops Q (o :: rest) a w := by
  refine wpList_plain hgd fun K hK => ?_
  unfold Oper.wp
  simp [execOp, ho, resolve, invoke, builtin, hd, hs, hrun, Result.andThen]
  exact hK _ _ h
theorem run_copy_op {P : Program} {w w' : World} {v dv sv : Value} {ρ : Operand → Value} {d s : Operand} {dT sT : TypeId} {dst : Option Tmp} {ty : TypeId} {pos : String} {after : Array Edge} {guard : Option (Nat × Bool)}
    (hd : ρ d = dv) (hs : ρ s = sv) (hrun : (Builtin.copy_ #[dT, sT] ty #[dv, sv]).run P w = .ok v w') :
    (execOp ρ { dst, op := .call { callee := .builtin .copy, args := #[d, s], argTypes := #[dT, sT] }, type := ty, pos, after, guard }).run P w = .ok (.value v) w' := by
  simp [execOp, resolve, invoke, builtin, hd, hs, hrun, Result.andThen]

theorem info113 : (Tryz.prog.info? 113).map (fun i => (i.zero, i.size, i.bytes)) = some (some (.agg #[.bool false, .slice none 0 0, .bool false, .slice none 0 0]), 4, 64) := by kernel_rfl
theorem made_zero (n : Nat) : madeCells (Value.agg #[.bool false, .slice none 0 0, .bool false, .slice none 0 0]).cells (n * 4) = repCells z4 n 0 := by
  apply Array.ext
  · rw [size_madeCells, repCells_size z4 (Nat.zero_le _)]
  · intro i h1 h2
    rw [size_madeCells] at h1
    have e : (repCells z4 n 0)[i]? = (r4cells z4)[i % 4]? := by
      have hi : i = (i / 4) * 4 + i % 4 := by omega
      rw [repCells, List.getElem?_toArray]
      conv => lhs; rw [hi]
      rw [r4_get _ _ _ (by omega) (by rw [rep4_length z4 (Nat.zero_le _)]; omega)]
      congr 2
      simp [rep4, List.getD, show i / 4 < n by omega]
    rw [Array.getElem?_eq_getElem h2] at e
    have h3 : i % 4 = 0 ∨ i % 4 = 1 ∨ i % 4 = 2 ∨ i % 4 = 3 := by omega
    have e' : (repCells z4 n 0)[i] = (r4cells z4).getD (i % 4) undef := by rw [List.getD, ← e]; rfl
    rw [e']
    simp only [madeCells]
    rcases h3 with h | h | h | h <;> rw [h] <;> simp [r4cells, z4, Value.cells, h]
theorem mk_rats (n : Nat) (hb : n ≤ 1048576) : ∀ W : World, (Instr.makeSlice 105 (.int .i64 (n : Int)) (.int .i64 (n : Int))).run Tryz.prog W =
    .ok (.slice (some ⟨W.heap.size, 0, none⟩) n n) (W.alloc (.cells (repCells z4 n 0) 113)) := fun W => by
  obtain ⟨i0, hi, hz0, hz1, hz2⟩ := info_parts info113
  rw [run_make_rowN (P := Tryz.prog) 105 113 i0 _ Tryz.underlying105 hi hz0 .i64 .i64 n n (Nat.le_refl _) (by rw [hz2]; omega) (by omega) W, hz1, made_zero]

theorem repCells_any (r : R4) (n : Nat) : repCells r n 0 = repCells z4 n 0 := by simp [repCells, rep4]

set_option maxRecDepth 100000 in
set_option maxHeartbeats 2000000 in
theorem repeat_any (b off c n : Nat) (r : R4) (w : World) (hc : Cell4 w b off r) (hr : ∀ u ∈ r4cells r, u.oneCell' = true) (hb : b < w.heap.size) (hn : 1 ≤ n) (hn2 : n ≤ 1048576) :
    Calls Tryz.prog 108 #[.slice (some ⟨b, off, none⟩) 1 c, .int .i64 (n : Int)] w fun e w' => ∃ g, e = .returned (.slice (some ⟨g, 0, none⟩) n n) ∧ w.heap.size ≤ g ∧ Blk w' g 113 (repCells r n n) ∧ Ext w w' := by
  have HR := hide hr
  have hmk := mk_rats n hn2
  have hmul := Tryz.bits_Mul 1 n (by decide) (by omega) w
  rw [show 1 * n / 18446744073709551616 = 0 by omega, show 1 * n % 18446744073709551616 = n by omega] at hmul
  have HM := hide hmul
  have hB0 : Blk (w.alloc (.cells (repCells r n 0) 113)) w.heap.size 113 (repCells r n 0) := Blk.new _ _ _
  have hEa : Ext w (w.alloc (.cells (repCells r n 0) 113)) := (Below.refl _ _).alloc (Nat.le_refl _) _
  have hlr : (r4cells r).length = 4 := rfl
  have hcp := run_copy_rowN (P := Tryz.prog) (w.alloc (.cells (repCells r n 0) 113)) 105 105 3 113 w.heap.size 0 n n ⟨b, off, none⟩ 1 c (repCells r n 0) 113 (r4cells r) 4 Tryz.underlying105 (by kernel_rfl) hB0
    (by rw [hlr]; show 4 = min 1 n * 4; omega)
    (fun j v hv => by
      have hj : j < 4 := (List.getElem?_eq_some_iff.1 hv).1
      rw [addr_add, hEa.cell (p := ⟨b, off + j, none⟩) hb]
      have : j = 0 ∨ j = 1 ∨ j = 2 ∨ j = 3 := by omega
      rcases this with rfl | rfl | rfl | rfl
      · injection hv with hv; subst hv; exact hc.1
      · injection hv with hv; subst hv; exact hc.2.1
      · injection hv with hv; subst hv; exact hc.2.2.1
      · injection hv with hv; subst hv; exact hc.2.2.2)
    (by rw [hlr, repCells_size r (Nat.zero_le _)]; omega) hr
  have ecs : ((repCells r n 0).toList.take 0 ++ r4cells r ++ (repCells r n 0).toList.drop (0 + (r4cells r).length)).toArray = repCells r n 1 := by
    have h := rep_list r (n := n) (m := 0) (j := 0) (k := 1) (Nat.le_refl _) (by omega) (by omega)
    rw [hlr]
    refine congrArg List.toArray (Eq.trans ?_ h)
    simp [repCells]
  rw [ecs, show Nat.min 1 n = 1 from by show min 1 n = 1; omega] at hcp
  have hB1 := hB0.setRow (repCells r n 1)
  have hE1 : Ext w ((w.alloc (.cells (repCells r n 0) 113)).setRow w.heap.size (repCells r n 1)) := below_setRow hEa (Nat.le_refl _) _
  generalize (w.alloc (.cells (repCells r n 0) 113)).setRow w.heap.size (repCells r n 1) = w2 at hcp hB1 hE1
  rw [repCells_any r n] at hcp
  have hcp' : (Builtin.copy_ #[105, 105] 3 #[.slice (some ⟨w.heap.size, 0, none⟩) n n, .slice (some ⟨b, off, none⟩) 1 c]).run Tryz.prog (w.alloc (.cells (repCells z4 n 0) 113)) = .ok (.int .i64 ((1 : Nat) : Int)) w2 := hcp
  have HB1 := hide hB1; have HE1 := hide hE1; have HCp := hide hcp'
  clear hc hr hmul hcp hB0 hEa hlr ecs hB1 hE1 hb hcp'
  have t1 : decide ((n : Int) < 0) = false := by simp
  have t2 : decide ((9223372036854775807 : Int) < n) = false := by simp; omega
  have i1 : (0 : Int) < n := by omega
  have i2 : (n : Int) ≤ 1048576 := by omega
  go_enter Tryz.func108, Tryz.ntmps108
  go_wp2_with fail
  refine HM.out.mono ?_
  rintro e w' ⟨rfl, hww⟩
  replace hww := hww.symm
  subst hww
  have hcp1 := HCp.out
  go_wp2_with fail
  clear hcp1 hmk HCp HM t1 t2
  go_loopw [8] (fun s wr => ∃ (m : Nat), 1 ≤ m ∧ m ≤ n ∧ s = .int .i64 (m : Int) ∧ Blk wr w.heap.size 113 (repCells r n m) ∧ Ext w wr) (fun s _ => n - (intOf s).toNat)
  case atStart => exact ⟨1, by omega, hn, rfl, HB1.out, HE1.out⟩
  case round =>
    obtain ⟨m, hm1, hmn, rfl, hB, hE⟩ := hrel
    by_cases hlt : m < n
    · have i3 : m ≤ n := hmn
      have i4 : ¬ n = m := by omega
      obtain ⟨k, hk⟩ : ∃ k, min m (n - m) = k := ⟨_, rfl⟩
      have i5 : k ≤ n := by omega
      have i6 : IntKind.i64.wrap ((m : Int) + k) = (m : Int) + k := IntWalk.i64_in _ (by omega)
      have i7 : m + k ≤ n := by omega
      have HK := hide hk
      clear hk
      go_wp2_with fail
      obtain ⟨Gs, hGs⟩ : ∃ Gs : List (Value → World → Prop), Gs = [(fun v _ => v = .int .i64 (m : Int)), (fun v _ => v = .slice (some ⟨w.heap.size, 0, none⟩) n n), (fun v _ => v = .int .i64 (m : Int)), (fun v _ => v = .slice (some ⟨w.heap.size, m * 4, none⟩) (n - m) (n - m)), (fun v _ => v = .slice (some ⟨w.heap.size, 0, none⟩) n n), (fun v _ => v = .int .i64 (m : Int)), (fun v _ => v = .slice (some ⟨w.heap.size, 0, none⟩) m n), (fun v W => v = .int .i64 ((k : Nat) : Int) ∧ Blk W w.heap.size 113 (repCells r n (m + k))), (fun v _ => v = .int .i64 ((m + k : Nat) : Int))] := ⟨_, rfl⟩
      have hst : Flow.Stay (fun W W' => Blk W w.heap.size 113 (repCells r n (m + k)) → Blk W' w.heap.size 113 (repCells r n (m + k))) Gs := by rw [hGs]; exact (Flow.Stay.cons (fun _ _ _ _ h => h) (Flow.Stay.cons (fun _ _ _ _ h => h) (Flow.Stay.cons (fun _ _ _ _ h => h) (Flow.Stay.cons (fun _ _ _ _ h => h) (Flow.Stay.cons (fun _ _ _ _ h => h) (Flow.Stay.cons (fun _ _ _ _ h => h) (Flow.Stay.cons (fun _ _ _ _ h => h) (Flow.Stay.cons (fun _ _ E _ h => ⟨h.1, E h.2⟩) (Flow.Stay.cons (fun _ _ _ _ h => h) Flow.Stay.nil)))))))))
      refine Flow.wp_region_flow 9 (by kernel_rfl) (fun W => Ext w W ∧ (Blk W w.heap.size 113 (repCells r n m) ∨ Blk W w.heap.size 113 (repCells r n (m + k)))) Gs (by kernel_rfl) ⟨hE.drew, .inl hB⟩ ?flowsteps ?flowend
      case flowsteps =>
        refine ⟨?_, ?_, ?_, ?_, ?_, ?_, ?_, ?_, ?_, trivial⟩
        · refine Flow.step_val rfl fun a W hb hI hd => ?_
          have h8 : a.eval (.tmp 8) = .int .i64 (m : Int) := hb.pre' 8 (by kernel_rfl)
          exact ⟨_, rfl, by rw [hGs]; exact h8⟩
        · refine Flow.step_val rfl fun a W hb hI hd => ?_
          have h7 : a.eval (.tmp 7) = .slice (some ⟨w.heap.size, 0, none⟩) n n := hb.pre' 7 (by kernel_rfl)
          exact ⟨_, rfl, by rw [hGs]; exact h7⟩
        · refine Flow.step_val rfl fun a W hb hI hd => ?_
          have h8 : a.eval (.tmp 8) = .int .i64 (m : Int) := hb.pre' 8 (by kernel_rfl)
          exact ⟨_, rfl, by rw [hGs]; exact h8⟩
        · refine Flow.step_val rfl fun a W hb hI hd => ?_
          have h39 : a.eval (.tmp 39) = .slice (some ⟨w.heap.size, 0, none⟩) n n := by have h := hd _ (Array.mem_of_getElem? (i := 0) rfl) rfl; rw [hGs] at h; exact h
          have h40 : a.eval (.tmp 40) = .int .i64 (m : Int) := by have h := hd _ (Array.mem_of_getElem? (i := 1) rfl) rfl; rw [hGs] at h; exact h
          have g39 : a.tmps[39]?.getD undef = .slice (some ⟨w.heap.size, 0, none⟩) n n := by have h := h39; simp only [Act.eval, Array.getD_eq_getD_getElem?] at h; exact h
          have g40 : a.tmps[40]?.getD undef = .int .i64 (m : Int) := by have h := h40; simp only [Act.eval, Array.getD_eq_getD_getElem?] at h; exact h
          exact ⟨.slice (some ⟨w.heap.size, m * 4, none⟩) (n - m) (n - m), by simp [go_sem, g39, g40, i3, i4], by rw [hGs]; rfl⟩
        · refine Flow.step_val rfl fun a W hb hI hd => ?_
          have h7 : a.eval (.tmp 7) = .slice (some ⟨w.heap.size, 0, none⟩) n n := hb.pre' 7 (by kernel_rfl)
          exact ⟨_, rfl, by rw [hGs]; exact h7⟩
        · refine Flow.step_val rfl fun a W hb hI hd => ?_
          have h8 : a.eval (.tmp 8) = .int .i64 (m : Int) := hb.pre' 8 (by kernel_rfl)
          exact ⟨_, rfl, by rw [hGs]; exact h8⟩
        · refine Flow.step_val rfl fun a W hb hI hd => ?_
          have h42 : a.eval (.tmp 42) = .slice (some ⟨w.heap.size, 0, none⟩) n n := by have h := hd _ (Array.mem_of_getElem? (i := 0) rfl) rfl; rw [hGs] at h; exact h
          have h43 : a.eval (.tmp 43) = .int .i64 (m : Int) := by have h := hd _ (Array.mem_of_getElem? (i := 1) rfl) rfl; rw [hGs] at h; exact h
          have g42 : a.tmps[42]?.getD undef = .slice (some ⟨w.heap.size, 0, none⟩) n n := by have h := h42; simp only [Act.eval, Array.getD_eq_getD_getElem?] at h; exact h
          have g43 : a.tmps[43]?.getD undef = .int .i64 (m : Int) := by have h := h43; simp only [Act.eval, Array.getD_eq_getD_getElem?] at h; exact h
          exact ⟨.slice (some ⟨w.heap.size, 0, none⟩) m n, by simp [go_sem, g42, g43, i3], by rw [hGs]; rfl⟩
        · refine Flow.step_to rfl fun a W hb hI hd => ?_
          have h41 : a.eval (.tmp 41) = .slice (some ⟨w.heap.size, m * 4, none⟩) (n - m) (n - m) := by have h := hd _ (Array.mem_of_getElem? (i := 0) rfl) rfl; rw [hGs] at h; exact h
          have h44 : a.eval (.tmp 44) = .slice (some ⟨w.heap.size, 0, none⟩) m n := by have h := hd _ (Array.mem_of_getElem? (i := 1) rfl) rfl; rw [hGs] at h; exact h
          rcases hI.2 with hA | hA
          · obtain ⟨W', hrun, hB', hK⟩ := rep_copy (k := k) HK.out (by omega) hA (Nat.le_refl _) (by omega) (by omega) (n - m) n 3 HR.out
            exact ⟨_, W', .inl (run_copy_op h41 h44 hrun), by rw [hGs]; exact ⟨rfl, hB'⟩, ⟨hK.ext_of hI.1 (fun i hi => by omega), .inr hB'⟩, hst.at (fun _ => hB')⟩
          · obtain ⟨W', hrun, hB', hK⟩ := rep_copy (k := k) HK.out (by omega) hA (by omega) (by omega) (Nat.le_refl _) (n - m) n 3 HR.out
            exact ⟨_, W', .inl (run_copy_op h41 h44 hrun), by rw [hGs]; exact ⟨rfl, hB'⟩, ⟨hK.ext_of hI.1 (fun i hi => by omega), .inr hB'⟩, hst.at (fun _ => hB')⟩
        · refine Flow.step_val rfl fun a W hb hI hd => ?_
          have h38 : a.eval (.tmp 38) = .int .i64 (m : Int) := by have h := hd _ (Array.mem_of_getElem? (i := 0) rfl) rfl; rw [hGs] at h; exact h
          have h45 : (fun v W => v = .int .i64 ((k : Nat) : Int) ∧ Blk W w.heap.size 113 (repCells r n (m + k))) (a.eval (.tmp 45)) W := by have h := hd _ (Array.mem_of_getElem? (i := 1) rfl) rfl; rw [hGs] at h; exact h
          obtain ⟨h45, _⟩ := h45
          have g38 : a.tmps[38]?.getD undef = .int .i64 (m : Int) := by have h := h38; simp only [Act.eval, Array.getD_eq_getD_getElem?] at h; exact h
          have g45 : a.tmps[45]?.getD undef = .int .i64 (k : Int) := by have h := h45; simp only [Act.eval, Array.getD_eq_getD_getElem?] at h; exact h
          exact ⟨.int .i64 ((m : Int) + k), by simp [go_sem, g38, g45, i6], by rw [hGs]; show _ = _; go_num⟩
      case flowend =>
        rw [hGs]
        refine fun W hI v0 h0 v1 h1 v2 h2 v3 h3 v4 h4 v5 h5 v6 h6 v7 h7 v8 h8 => ?_
        obtain rfl : .int .i64 (m : Int) = v0 := Eq.symm h0; clear h0
        obtain rfl : .slice (some ⟨w.heap.size, 0, none⟩) n n = v1 := Eq.symm h1; clear h1
        obtain rfl : .int .i64 (m : Int) = v2 := Eq.symm h2; clear h2
        obtain rfl : .slice (some ⟨w.heap.size, m * 4, none⟩) (n - m) (n - m) = v3 := Eq.symm h3; clear h3
        obtain rfl : .slice (some ⟨w.heap.size, 0, none⟩) n n = v4 := Eq.symm h4; clear h4
        obtain rfl : .int .i64 (m : Int) = v5 := Eq.symm h5; clear h5
        obtain rfl : .slice (some ⟨w.heap.size, 0, none⟩) m n = v6 := Eq.symm h6; clear h6
        replace h7 : (fun v W => v = .int .i64 ((k : Nat) : Int) ∧ Blk W w.heap.size 113 (repCells r n (m + k))) v7 W := h7
        obtain rfl : .int .i64 ((m + k : Nat) : Int) = v8 := Eq.symm h8; clear h8
        clear hst hGs
        show wpList _ _ _ _ _ _
        simp only [List.drop_succ_cons, List.drop_zero, Act.put, List.setIfInBounds_toArray, List.set_cons_zero, List.set_cons_succ]
        obtain ⟨h7, HBk⟩ := h7
        have HBK := hide HBk
        subst h7
        clear HBk i6 hB hE
        have hE2 := hI.1
        clear hI
        go_wp2_with fail
        go_roundw
        case rel => exact ⟨m + k, by omega, i7, by go_num, HBK.out, hE2⟩
        case measure => simp [intOf]; have := HK.out; omega
    · obtain rfl : m = n := by omega
      have HB := hide hB
      clear hB
      go_wp2
      go_ret
      exact ⟨_, rfl, Nat.le_refl _, HB.out, hE⟩

end Go.Proofs.YtncabodphjkkfaaGreat
