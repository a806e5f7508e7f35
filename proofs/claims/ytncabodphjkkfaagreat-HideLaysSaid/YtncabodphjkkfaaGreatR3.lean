/- hide.Code. Conditions: at least one square. -/
import Derived.Test.YtncabodphjkkfaaGreatR2
namespace Go.Proofs.YtncabodphjkkfaaGreat
open Go.RowKit Go.Limbs Go.Shelf

theorem wpList_append_go {P : Program} {w w' : World} {v dv sv : Value} {ops : Array Oper} {rest : List Oper} {o : Oper} {a : Act} {Q : Exit → Act → World → Prop} (hgd : o.guard = none) (d s : Operand) (dT sT : TypeId)
    (ho : o.op = .call { callee := .builtin .append, args := #[d, s], argTypes := #[dT, sT] }) (hd : a.eval d = dv) (hs : a.eval s = sv) (hrun : (Builtin.append_ #[dT, sT] o.type #[dv, sv]).run P w = .ok v w')
    (h : wpList P ops Q rest (a.put o.dst v) w') : wpList P ops Q (o :: rest) a w := by
  refine wpList_plain hgd fun K hK => ?_
  unfold Oper.wp
  simp [execOp, ho, resolve, invoke, builtin, hd, hs, hrun, Result.andThen]
  exact hK _ _ h
/-- Cells of a block appended to a row of the call's own. -/
theorem own_append {W : World} {base t T size bytes n m g cp : Nat} {z : Value} {o : Value} {xs : List Value} {news : List Value} (ht : Tryz.prog.underlying t = some (.slice T)) (hinfo : (Tryz.prog.info? T).map (fun i => (i.zero, i.size, i.bytes)) = some (some z, size, bytes)) (hz : z.cells.size = size) (hs : 0 < size)
    (h : W.ownsRow base T size o n xs) (hB : Blk W g T news.toArray) (hl : news.length = m * size) (h1 : ∀ u ∈ news, u.oneCell' = true) (hn : n + m ≤ 1048576) (hb : (n + m) * bytes ≤ 140737488355328) (hbase : base ≤ W.heap.size) (ty : TypeId) :
    ∃ v' W', (Builtin.append_ #[t, t] ty #[o, .slice (some ⟨g, 0, none⟩) m cp]).run Tryz.prog W = .ok v' W' ∧ W'.ownsRow base T size v' (n + m) (xs ++ news) ∧ Keep (fun b => o.ownBlock = some b) W W' := by
  obtain ⟨i0, hi, hz0, hz1, hz2⟩ := info_parts hinfo
  obtain ⟨v', W', hrun, hown, hg, _⟩ := App.run_append_any (P := Tryz.prog) W base t ty T i0 z size bytes ht hi hz0 hz1 hz2 hz hs o n xs h
    W.heap.size (some ⟨g, 0, none⟩) m cp news ⟨hl, fun _ => ⟨_, rfl, hB.lt, fun j u hu => by
      rw [addr_add, hB.cell, Nat.zero_add, List.getElem?_toArray]; exact hu⟩⟩ h1 (by unfold maxLen; omega) hb hbase
  exact ⟨v', W', hrun, hown, hg.os, hg.tape, hg.output, hg.size, fun i hi hn => hg.block i hi (fun e => hn e.symm)⟩
theorem Ints.of_own {w : World} {base : Nat} {v : Value} {l : List Int} (h : w.ownsRow base 3 1 v l.length (l.map ival)) (hl : l.length ≤ 1152921504606846976) : Ints w v l := by
  obtain ⟨A, cap, rfl, hc, _⟩ := own_slice h
  exact ⟨A, cap, rfl, hc, hl, Rd.of_own h⟩

/-- What Code hands back. -/
def CodeRes (l : List Sq) (w : World) (e : Ending) (w' : World) : Prop :=
  Ext w w' ∧ ((readErr l ≠ 0 ∧ e = .returned (.tuple #[.slice none 0 0, .int .i64 (readErr l)])) ∨
    (readErr l = 0 ∧ ∃ u l', e = .returned (.tuple #[u, .int .i64 0]) ∧ Ints w' u (l'.map fun q => q.2.2) ∧ l'.Perm l ∧ SortedBy cmpSq l'))

set_option maxRecDepth 100000 in
set_option maxHeartbeats 2000000 in
theorem code_any (v : Value) (l : List Sq) (w : World) (hv : Sqs w v l) (h0 : 0 < l.length) (hm : l.length ≤ 1048576) : Calls Tryz.prog 30 #[v] w (CodeRes l w) := by
  have HRead := hide (read_any v l w hv h0)
  obtain ⟨A, cap, rfl, hcap, _, hrd⟩ := hv
  clear hrd
  go_enter Tryz.func30, Tryz.ntmps30
  go_wp2_with fail
  refine HRead.out.mono ?_
  rintro e w1 ⟨E1, h⟩
  rcases h with ⟨hne, rfl⟩ | ⟨he0, gc, vs, l', rfl, hgc, hB, hS, hperm, hsort⟩
  · have t1 : (readErr l != 0) = true := by simpa using hne
    have HRes : Hid (CodeRes l w (.returned (.tuple #[.slice none 0 0, .int .i64 (readErr l)])) w1) := ⟨E1, .inl ⟨hne, rfl⟩⟩
    clear hne E1 HRead
    go_wp2
    go_ret2
    exact HRes.out
  · obtain ⟨A', cap', rfl, hcap', _, hrd'⟩ := hS
    have hll := hperm.length_eq
    have HLl := hide hll
    have c0 := hB.cell 0
    simp at c0
    have HRd := hide hrd'; have HPerm := hide hperm; have HSort := hide hsort; have HE1 := hide E1; have H00 := hide he0
    clear hrd' hperm hsort E1 hB hll he0 HRead
    go_wp2_with fail
    go_loopw [6, 22] (fun o s wr => ∃ (k : Nat), k ≤ l'.length ∧ s = .int .i64 (k : Int) ∧ wr.ownsRow w1.heap.size 3 1 o k (((l'.map fun q => q.2.2).take k).map ival) ∧ Ext w1 wr) (fun _ s _ => l'.length - (intOf s).toNat)
    case atStart => exact ⟨0, Nat.zero_le _, rfl, World.ownsRow_nil _ _ _ _, Ext.rfl' _⟩
    case round =>
      obtain ⟨k, hk, rfl, hown, hE⟩ := hrel
      have HOwn := hide hown; have HE := hide hE
      clear hown hE
      obtain ⟨w2, hw2⟩ : ∃ w0, w0 = wr := ⟨_, rfl⟩
      subst hw2
      by_cases hlt : k < l'.length
      · obtain ⟨b, off, rfl, hbt, hcells⟩ := Sqs.at HRd.out hlt
        obtain ⟨a0, a1, a2⟩ := hcells k hlt
        obtain ⟨⟨x, y, z⟩, hq⟩ : ∃ q, l'.getD k (0, 0, 0) = q := ⟨_, rfl⟩
        rw [hq] at a0 a1 a2
        simp only [] at a0 a1 a2
        have b0 : w2.cell? ⟨b, off + k * 3, none⟩ = some (.int .i64 x) := (HE.out.cell (p := ⟨b, off + k * 3, none⟩) hbt.lt).trans a0
        have b1 : w2.cell? ⟨b, off + k * 3 + 1, none⟩ = some (.int .i64 y) := (HE.out.cell (p := ⟨b, off + k * 3 + 1, none⟩) hbt.lt).trans a1
        have b2 : w2.cell? ⟨b, off + k * 3 + 2, none⟩ = some (.int .i64 z) := (HE.out.cell (p := ⟨b, off + k * 3 + 2, none⟩) hbt.lt).trans a2
        have hEa : Ext w2 ((w2.alloc (.cells #[.int .i64 x, .int .i64 y, .int .i64 z] 47)).alloc (.cells #[.int .i64 z] 3)) := ((Below.refl _ _).alloc (Nat.le_refl _) _).alloc (by simp) _
        have hBz : Blk ((w2.alloc (.cells #[.int .i64 x, .int .i64 y, .int .i64 z] 47)).alloc (.cells #[.int .i64 z] 3)) (w2.heap.size + 1) 3 [Value.int .i64 z].toArray := Blk.new' _ _ _ _ (by simp)
        obtain ⟨v', W', hrun, hown', hK'⟩ := own_append (cp := 1) Tryz.underlying22 info3 rfl (by omega) (own_ext HOwn.out hEa) hBz rfl (by intro u hu; simp at hu; subst hu; rfl) (by have := HLl.out; omega) (by have := HLl.out; omega) (HE.out.tr hEa).size 22
        have htk : ((l'.map fun q => q.2.2).take (k + 1)).map ival = ((l'.map fun q => q.2.2).take k).map ival ++ [.int .i64 z] := by
          rw [List.take_succ_eq_append_getElem (by rw [List.length_map]; exact hlt), List.map_append]
          congr 1
          have : l'[k] = (x, y, z) := by rw [← hq]; simp [List.getD, hlt]
          simp [this, ival]
        have HRun := hide hrun
        have HOwn2 := hide (show W'.ownsRow w1.heap.size 3 1 v' (k + 1) (((l'.map fun q => q.2.2).take (k + 1)).map ival) by rw [htk]; exact hown')
        have HE2 := hide (hK'.ext_of (HE.out.tr hEa) (fun b hb => (HOwn.out.lt b hb).1))
        clear hrun hown' hK' htk hBz hEa a0 a1 a2 hq hcells
        go_wp2_with (at_builtin; refine wpList_append_go rfl (.tmp 26) (.tmp 29) 22 22 rfl rfl rfl HRun.out ?_)
        go_roundw
        case rel => exact ⟨k + 1, by omega, by go_num, HOwn2.out, HE2.out⟩
        case measure => simp [intOf]; omega
      · obtain rfl : k = l'.length := by omega
        have htk : (l'.map fun q : Sq => q.2.2).take l'.length = l'.map fun q => q.2.2 := List.take_of_length_le (by simp)
        have hown := HOwn.out
        rw [htk] at hown
        have hI : Ints w2 u6 (l'.map fun q => q.2.2) := Ints.of_own (base := w1.heap.size) (by rw [List.length_map]; exact hown) (by rw [List.length_map]; have := HLl.out; omega)
        have HRes : Hid (CodeRes l w (.returned (.tuple #[u6, .int .i64 0])) w2) := ⟨HE1.out.tr HE.out, .inr ⟨H00.out, _, l', rfl, hI, HPerm.out, HSort.out⟩⟩
        clear htk hown hI
        go_wp2
        go_ret2
        exact HRes.out

end Go.Proofs.YtncabodphjkkfaaGreat
