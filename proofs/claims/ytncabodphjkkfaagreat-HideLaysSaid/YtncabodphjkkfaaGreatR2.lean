/- hide.read: why squares are no cut, else the cut. Conditions: at least one square. -/
import Derived.Test.YtncabodphjkkfaaGreatR1
import Derived.Test.YtncabodphjkkfaaGreatN15
import Derived.Test.YtncabodphjkkfaaGreatFlow3
import Derived.IntWalk
import Derived.BigQuiet
namespace Go.Proofs.YtncabodphjkkfaaGreat
open Go.RowKit Go.Limbs Go.Shelf

/-- What read hands back. -/
def ReadRes (l : List Sq) (w : World) (e : Ending) (w' : World) : Prop :=
  Ext w w' ∧ ((readErr l ≠ 0 ∧ e = .returned (.tuple #[.pointer none, .int .i64 (readErr l)])) ∨
    (readErr l = 0 ∧ ∃ gc vs l', e = .returned (.tuple #[.pointer (some ⟨gc, 0, none⟩), .int .i64 0]) ∧ w.heap.size ≤ gc ∧ Blk w' gc 98 #[vs, .int .i64 (wTo l l.length), .int .i64 (hTo l l.length)] ∧ Sqs w' vs l' ∧ l'.Perm l ∧ SortedBy cmpSq l'))

theorem sqbad_get {l : List Sq} (h : ¬ ∃ q ∈ l, sqBad q) {k : Nat} (hk : k < l.length) : ¬ sqBad (sqAt l k) := fun hb => h ⟨_, by
  have e : sqAt l k = l[k] := by simp [sqAt, List.getD, hk]
  rw [e]; exact List.getElem_mem hk, hb⟩

theorem run_fa98_1 {W : World} {g : Nat} {a : Act} {t : Tmp} {dst : Option Tmp} {ty : TypeId} {pos : String} {after : Array Edge} {guard : Option (Nat × Bool)}
    (hx : a.eval (.tmp t) = .pointer (some ⟨g, 0, none⟩)) : (execOp a.eval { dst, op := .fieldAddr 98 (.tmp t) 1, type := ty, pos, after, guard }).run Tryz.prog W = .ok (.value (.pointer (some ⟨g, 1, none⟩))) W := by
  have g : a.tmps[t]?.getD undef = .pointer (some ⟨g, 0, none⟩) := by have h := hx; simp only [Act.eval, Array.getD_eq_getD_getElem?] at h; exact h
  simp [go_sem, execOp, g]
theorem run_fa98_2 {W : World} {g : Nat} {a : Act} {t : Tmp} {dst : Option Tmp} {ty : TypeId} {pos : String} {after : Array Edge} {guard : Option (Nat × Bool)}
    (hx : a.eval (.tmp t) = .pointer (some ⟨g, 0, none⟩)) : (execOp a.eval { dst, op := .fieldAddr 98 (.tmp t) 2, type := ty, pos, after, guard }).run Tryz.prog W = .ok (.value (.pointer (some ⟨g, 2, none⟩))) W := by
  have g : a.tmps[t]?.getD undef = .pointer (some ⟨g, 0, none⟩) := by have h := hx; simp only [Act.eval, Array.getD_eq_getD_getElem?] at h; exact h
  simp [go_sem, execOp, g]
theorem run_store3 {W : World} {ad : Addr} {n : Int} {u : Value} {ρ : Operand → Value} {x y : Operand} {dst : Option Tmp} {ty : TypeId} {pos : String} {after : Array Edge} {guard : Option (Nat × Bool)}
    (hx : ρ x = .pointer (some ad)) (hy : ρ y = .int .i64 n) (hc : W.cell? ad = some u) (hf : W.frozen? ad = false) : (execOp ρ { dst, op := .store 3 x y, type := ty, pos, after, guard }).run Tryz.prog W = .ok .skip (W.setCell ad (.int .i64 n)) := by
  simp [go_sem, execOp, hx, hy, hc, hf]
theorem keep_drew {S : Nat → Prop} {a b : World} (h : Keep S a b) : Keep S a b.drew := ⟨h.os, h.tape, h.output, h.size, h.block⟩
theorem own_keep {S : Nat → Prop} {w w' : World} {base T size n : Nat} {v : Value} {xs : List Value} (h : w.ownsRow base T size v n xs) (k : Keep S w w') (hn : ∀ b, v.ownBlock = some b → ¬ S b) : w'.ownsRow base T size v n xs := by
  refine ⟨h.1, ?_⟩
  rcases h.2 with ⟨hv, hn'⟩ | ⟨g, cap, cur, hv, hb, hg, hrest⟩
  · exact .inl ⟨hv, hn'⟩
  · have hob : v.ownBlock = some g := by rw [hv]; rfl
    exact .inr ⟨g, cap, cur, hv, hb, (k.block g (Blk.lt (t := T) (cs := cur) hg) (hn g hob)).trans hg, hrest⟩
theorem readErr_bad {l : List Sq} (h24 : ¬ 24 < l.length) (h : ∃ q ∈ l, sqBad q) : readErr l = 1 := by unfold readErr; rw [if_neg h24, if_pos h]
theorem readErr_pair {l : List Sq} (h24 : ¬ 24 < l.length) (h : ¬ ∃ q ∈ l, sqBad q) (hp : pairBad l) : readErr l = 2 := by unfold readErr; rw [if_neg h24, if_neg h, if_pos hp]
theorem readErr_area {l : List Sq} (h24 : ¬ 24 < l.length) (h : ¬ ∃ q ∈ l, sqBad q) (hp : ¬ pairBad l) (ha : arTo l l.length = 0 ∨ arTo l l.length ≠ wTo l l.length * hTo l l.length) : readErr l = 2 := by unfold readErr; rw [if_neg h24, if_neg h, if_neg hp, if_pos ha]
theorem readErr_ok {l : List Sq} (h24 : ¬ 24 < l.length) (h : ¬ ∃ q ∈ l, sqBad q) (hp : ¬ pairBad l) (ha : ¬ (arTo l l.length = 0 ∨ arTo l l.length ≠ wTo l l.length * hTo l l.length)) : readErr l = 0 := by unfold readErr; rw [if_neg h24, if_neg h, if_neg hp, if_neg ha]

set_option maxRecDepth 100000 in
set_option maxHeartbeats 8000000 in
theorem read_any (v : Value) (l : List Sq) (w : World) (hv : Sqs w v l) (h0 : 0 < l.length) : Calls Tryz.prog 51 #[v] w (ReadRes l w) := by
  obtain ⟨A, cap, rfl, hcap, hm, hrd⟩ := hv
  by_cases h24 : 24 < l.length
  · have e1 : readErr l = 3 := by unfold readErr; rw [if_pos h24]
    have t1 : decide ((l.length : Int) > 24) = true := by simp; omega
    have E1 := hide e1
    clear e1 h24 hrd
    go_enter Tryz.func51, Tryz.ntmps51
    go_wp2
    go_ret2
    exact ⟨Ext.rfl' _, .inl ⟨by rw [E1.out]; decide, by rw [E1.out]; rfl⟩⟩
  · have t1 : decide ((l.length : Int) > 24) = false := by simp; omega
    have hl24 : l.length ≤ 24 := by omega
    obtain ⟨b, off, rfl, hbt, hcells⟩ := Sqs.at hrd h0
    obtain ⟨i0, hi, hz0, hz1, hz2⟩ := info_parts info47
    have hclone := AnyE.slices_Clone Tryz.cloneSq i0 _ 3 24 hi hz0 hz1 hz2 rfl (by omega) Tryz.sizeOf47 b off l.length cap (l.flatMap sqCells) w (sqCells_length l) (by unfold maxLen; omega) (by omega)
      (fun j u hu => by
        have hj := (List.getElem?_eq_some_iff.1 hu).1
        obtain ⟨b', off', hA, hb', hcc⟩ := hrd (fun e => by rw [e] at hj; simp at hj)
        obtain ⟨e1, e2⟩ : b = b' ∧ off = off' := by injection hA with hA; injection hA with e1 e2; exact ⟨e1, e2⟩
        rw [e1, e2, hcc j hj, List.getD, hu]; rfl) (sqCells_one l)
    change Calls Tryz.prog 97 _ _ _ at hclone
    have HCl := hide hclone; have HCells := hide hcells
    have H24 := hide h24
    clear hclone hcells hrd h24
    go_enter Tryz.func51, Tryz.ntmps51
    go_wp2_with fail
    refine HCl.out.mono ?_
    rintro e w1 ⟨vs, rfl, hown, _, E1⟩
    obtain ⟨gl, cl, rfl, hgl, hgl2⟩ := hown.form h0
    have HOwn := hide hown; have HE1 := hide (show Ext w w1 from E1)
    clear hown E1 HCl
    go_wp2_with fail
    obtain ⟨gc, hgc⟩ : ∃ g, w1.heap.size = g := ⟨_, rfl⟩
    have hEa : Ext w1 (w1.alloc (.cells #[.slice (some ⟨gl, 0, none⟩) l.length cl, .int .i64 0, .int .i64 0] 98)) := (Below.refl _ _).alloc (Nat.le_refl _) _
    have HB := hide (show Blk (w1.alloc (.cells #[.slice (some ⟨gl, 0, none⟩) l.length cl, .int .i64 0, .int .i64 0] 98)) gc 98 #[.slice (some ⟨gl, 0, none⟩) l.length cl, .int .i64 0, .int .i64 0] from Blk.new' _ _ _ _ hgc.symm)
    have HE2 := hide (HE1.out.tr hEa)
    have HOwn2 := hide (own_ext HOwn.out hEa)
    have hgcw : w.heap.size ≤ gc := by rw [← hgc]; exact HE1.out.size
    rw [hgc]
    generalize w1.alloc (.cells #[.slice (some ⟨gl, 0, none⟩) l.length cl, .int .i64 0, .int .i64 0] 98) = w2 at HB HE2 HOwn2 ⊢
    clear hEa hgc
    go_loopw [5, 21] (fun s5 s21 wr => ∃ (k : Nat), k ≤ l.length ∧ s21 = .int .i64 (k : Int) ∧ s5 = .int .i64 (arTo l k) ∧ (∀ j, j < k → ¬ sqBad (sqAt l j)) ∧ Blk wr gc 98 #[.slice (some ⟨gl, 0, none⟩) l.length cl, .int .i64 (wTo l k), .int .i64 (hTo l k)] ∧
        wr.ownsRow w.heap.size 47 3 (.slice (some ⟨gl, 0, none⟩) l.length cl) l.length (l.flatMap sqCells) ∧ Ext w wr) (fun _ s21 _ => l.length - (intOf s21).toNat)
    case atStart => exact ⟨0, Nat.zero_le _, rfl, rfl, fun j hj => by omega, HB.out, HOwn2.out, HE2.out⟩
    case round =>
      obtain ⟨k, hk, rfl, rfl, hnb, hB, hown, hE⟩ := hrel
      have HNb := hide hnb; have HB3 := hide hB; have HOwn3 := hide hown; have HE3 := hide hE
      obtain ⟨w0', w1', h0', h1', ar0, ar1⟩ := to_bounds k hk hnb
      obtain ⟨w3, hw3⟩ : ∃ w0, w0 = wr := ⟨_, rfl⟩
      subst hw3
      obtain ⟨W0, hW0⟩ : ∃ x, wTo l k = x := ⟨_, rfl⟩
      obtain ⟨H0, hH0⟩ : ∃ x, hTo l k = x := ⟨_, rfl⟩
      obtain ⟨A0, hA0⟩ : ∃ x, arTo l k = x := ⟨_, rfl⟩
      rw [hW0] at w0' w1' HB3
      rw [hH0] at h0' h1' HB3
      rw [hA0] at ar0 ar1
      rw [hA0]
      have HW0 := hide hW0; have HH0 := hide hH0; have HA0 := hide hA0
      clear hnb hB hown hE hW0 hH0 hA0
      by_cases hlt : k < l.length
      · obtain ⟨a0, a1, a2⟩ := HCells.out k hlt
        obtain ⟨⟨x, y, z⟩, hq⟩ : ∃ q, l.getD k (0, 0, 0) = q := ⟨_, rfl⟩
        rw [hq] at a0 a1 a2
        simp only [] at a0 a1 a2
        have b0 : w3.cell? ⟨b, off + k * 3, none⟩ = some (.int .i64 x) := (HE3.out.cell (p := ⟨b, off + k * 3, none⟩) hbt.lt).trans a0
        have b1 : w3.cell? ⟨b, off + k * 3 + 1, none⟩ = some (.int .i64 y) := (HE3.out.cell (p := ⟨b, off + k * 3 + 1, none⟩) hbt.lt).trans a1
        have b2 : w3.cell? ⟨b, off + k * 3 + 2, none⟩ = some (.int .i64 z) := (HE3.out.cell (p := ⟨b, off + k * 3 + 2, none⟩) hbt.lt).trans a2
        have HQ := hide hq
        clear a0 a1 a2 hq
        by_cases hbad : sqBad (x, y, z)
        · have hex : ∃ q ∈ l, sqBad q := ⟨(x, y, z), by rw [← HQ.out, List.getD, List.getElem?_eq_getElem hlt]; exact List.getElem_mem hlt, hbad⟩
          have HErr := hide (readErr_bad H24.out hex)
          unfold sqBad at hbad
          simp only [] at hbad
          have hEe : Ext w (w3.alloc (.cells #[.int .i64 x, .int .i64 y, .int .i64 z] 47)) := HE3.out.tr ((Below.refl _ _).alloc (Nat.le_refl _) _)
          have HEe := hide hEe
          clear hex hEe
          by_cases c1 : x < 0
          · have t2 : decide (x < 0) = true := by simpa using c1
            clear hbad c1
            go_wp2
            go_ret2
            exact ⟨HEe.out, .inl ⟨by rw [HErr.out]; decide, by rw [HErr.out]; rfl⟩⟩
          · have t2 : decide (x < 0) = false := by simpa using c1
            by_cases c2 : y < 0
            · have t3 : decide (y < 0) = true := by simpa using c2
              clear hbad c1 c2
              go_wp2
              go_ret2
              exact ⟨HEe.out, .inl ⟨by rw [HErr.out]; decide, by rw [HErr.out]; rfl⟩⟩
            · have t3 : decide (y < 0) = false := by simpa using c2
              by_cases c3 : z < 1
              · have t4 : decide (z < 1) = true := by simpa using c3
                clear hbad c1 c2 c3
                go_wp2
                go_ret2
                exact ⟨HEe.out, .inl ⟨by rw [HErr.out]; decide, by rw [HErr.out]; rfl⟩⟩
              · have t4 : decide (z < 1) = false := by simpa using c3
                by_cases c4 : z > 1000
                · have t5 : decide (z > 1000) = true := by simpa using c4
                  clear hbad c1 c2 c3 c4
                  go_wp2
                  go_ret2
                  exact ⟨HEe.out, .inl ⟨by rw [HErr.out]; decide, by rw [HErr.out]; rfl⟩⟩
                · have t5 : decide (z > 1000) = false := by simpa using c4
                  have i1 : 1 ≤ z := by omega
                  have i2 : z ≤ 1000 := by omega
                  by_cases c5 : x > 1000 - z
                  · have t6 : decide (x > 1000 - z) = true := by simpa using c5
                    clear hbad c1 c2 c3 c4 c5
                    go_wp2
                    go_ret2
                    exact ⟨HEe.out, .inl ⟨by rw [HErr.out]; decide, by rw [HErr.out]; rfl⟩⟩
                  · have t6 : decide (x > 1000 - z) = false := by simpa using c5
                    have t7 : decide (y > 1000 - z) = true := by simp; omega
                    clear hbad c1 c2 c3 c4 c5
                    go_wp2
                    go_ret2
                    exact ⟨HEe.out, .inl ⟨by rw [HErr.out]; decide, by rw [HErr.out]; rfl⟩⟩
        · have hnb := hbad
          have HNbk := hide hnb
          unfold sqBad at hbad
          simp only [] at hbad
          have t2 : decide (x < 0) = false := by simp; omega
          have t3 : decide (y < 0) = false := by simp; omega
          have t4 : decide (z < 1) = false := by simp; omega
          have t5 : decide (z > 1000) = false := by simp; omega
          have t6 : decide (x > 1000 - z) = false := by simp; omega
          have t7 : decide (y > 1000 - z) = false := by simp; omega
          have i1 : 1 ≤ z := by omega
          have i2 : z ≤ 1000 := by omega
          have i3 : 0 ≤ x := by omega
          have i4 : x ≤ 1000 := by omega
          have i5 : 0 ≤ y := by omega
          have i6 : y ≤ 1000 := by omega
          clear hbad hnb
          go_wp2_with fail
          have hEb : Ext w3 (w3.alloc (.cells #[.int .i64 x, .int .i64 y, .int .i64 z] 47)) := (Below.refl _ _).alloc (Nat.le_refl _) _
          obtain ⟨gq, hgq⟩ : ∃ g, w3.heap.size = g := ⟨_, rfl⟩
          have HBq := hide (show Blk (w3.alloc (.cells #[.int .i64 x, .int .i64 y, .int .i64 z] 47)) gq 47 #[.int .i64 x, .int .i64 y, .int .i64 z] from Blk.new' _ _ _ _ hgq.symm)
          have HB4 := hide (HB3.out.ext hEb); have HOwn4 := hide (own_ext HOwn3.out hEb); have HE4 := hide (HE3.out.tr hEb)
          rw [hgq]
          generalize w3.alloc (.cells #[.int .i64 x, .int .i64 y, .int .i64 z] 47) = w4 at HBq HB4 HOwn4 HE4 ⊢
          have q0 := HBq.out.cell 0
          have q1 := HBq.out.cell 1
          have q2 := HBq.out.cell 2
          have c1 := HB4.out.cell 1
          have c2 := HB4.out.cell 2
          have f1 := HB4.out.frozen 1
          have f2 := HB4.out.frozen 2
          simp at q0 q1 q2 c1 c2
          have n1 : ¬ gq = gc := HBq.out.ty.ne HB4.out.ty (by decide)
          have n2 : ¬ gc = gq := fun e => n1 e.symm
          clear hEb hgq b0 b1 b2
          have m1 : 0 ≤ z * z := Int.mul_nonneg (by omega) (by omega)
          have m2 : z * z ≤ 1000000 := Int.le_trans (Int.mul_le_mul_of_nonneg_right (show z ≤ 1000 by omega) (show (0 : Int) ≤ z by omega)) (by omega)
          have s1 : IntKind.i64.wrap (x + z) = x + z := IntWalk.i64_in _ (by omega)
          have s2 : IntKind.i64.wrap (y + z) = y + z := IntWalk.i64_in _ (by omega)
          clear q0 q1 q2 c1 c2 f1 f2
          obtain ⟨Gs, hGs⟩ : ∃ Gs : List (Value → World → Prop), Gs = [(fun v _ => v = .pointer (some ⟨gc, 0, none⟩)), (fun v _ => v = .pointer (some ⟨gc, 0, none⟩)), (fun v _ => v = .pointer (some ⟨gc, 0, none⟩)), (fun v _ => v = .pointer (some ⟨gc, 0, none⟩)), (fun v _ => v = .pointer (some ⟨gc, 1, none⟩)), (fun v _ => v = .int .i64 W0), (fun v _ => v = .pointer (some ⟨gq, 0, none⟩)), (fun v _ => v = .int .i64 x), (fun v _ => v = .pointer (some ⟨gq, 2, none⟩)), (fun v _ => v = .int .i64 z), (fun v _ => v = .int .i64 (x + z)), (fun v _ => v = .int .i64 (max W0 (x + z))), (fun v _ => v = .pointer (some ⟨gc, 0, none⟩)), (fun v _ => v = .pointer (some ⟨gc, 0, none⟩)), (fun v _ => v = .pointer (some ⟨gc, 2, none⟩)), (fun v _ => v = .int .i64 H0), (fun v _ => v = .pointer (some ⟨gq, 1, none⟩)), (fun v _ => v = .int .i64 y), (fun v _ => v = .pointer (some ⟨gq, 2, none⟩)), (fun v _ => v = .int .i64 z), (fun v _ => v = .int .i64 (y + z)), (fun v _ => v = .int .i64 (max H0 (y + z))), (fun v _ => v = .pointer (some ⟨gc, 0, none⟩)), (fun v _ => v = .pointer (some ⟨gc, 1, none⟩)), (fun _ _ => True)] := ⟨_, rfl⟩
          have hst : Flow.Stay (fun _ _ => True) Gs := by rw [hGs]; exact (Flow.Stay.cons (fun _ _ _ _ h => h) (Flow.Stay.cons (fun _ _ _ _ h => h) (Flow.Stay.cons (fun _ _ _ _ h => h) (Flow.Stay.cons (fun _ _ _ _ h => h) (Flow.Stay.cons (fun _ _ _ _ h => h) (Flow.Stay.cons (fun _ _ _ _ h => h) (Flow.Stay.cons (fun _ _ _ _ h => h) (Flow.Stay.cons (fun _ _ _ _ h => h) (Flow.Stay.cons (fun _ _ _ _ h => h) (Flow.Stay.cons (fun _ _ _ _ h => h) (Flow.Stay.cons (fun _ _ _ _ h => h) (Flow.Stay.cons (fun _ _ _ _ h => h) (Flow.Stay.cons (fun _ _ _ _ h => h) (Flow.Stay.cons (fun _ _ _ _ h => h) (Flow.Stay.cons (fun _ _ _ _ h => h) (Flow.Stay.cons (fun _ _ _ _ h => h) (Flow.Stay.cons (fun _ _ _ _ h => h) (Flow.Stay.cons (fun _ _ _ _ h => h) (Flow.Stay.cons (fun _ _ _ _ h => h) (Flow.Stay.cons (fun _ _ _ _ h => h) (Flow.Stay.cons (fun _ _ _ _ h => h) (Flow.Stay.cons (fun _ _ _ _ h => h) (Flow.Stay.cons (fun _ _ _ _ h => h) (Flow.Stay.cons (fun _ _ _ _ h => h) (Flow.Stay.cons (fun _ _ _ _ h => h) Flow.Stay.nil)))))))))))))))))))))))))
          refine Flow.wp_region_flowX 25 (by kernel_rfl) (fun W => Blk W gq 47 #[.int .i64 x, .int .i64 y, .int .i64 z]) (fun _ _ _ _ => True) Gs (Flow.StX 24 [5, 15] (fun W => Blk W gc 98 #[.slice (some ⟨gl, 0, none⟩) l.length cl, .int .i64 W0, .int .i64 H0] ∧ Keep (fun b => b = gc) w4 W) (fun W => Blk W gc 98 #[.slice (some ⟨gl, 0, none⟩) l.length cl, .int .i64 (max W0 (x + z)), .int .i64 H0] ∧ Keep (fun b => b = gc) w4 W)) (by kernel_rfl) HBq.out.drew ⟨fun h => by simp at h, fun _ => ⟨HB4.out.drew, keep_drew (Keep.refl _ _)⟩, fun h => by simp at h⟩ ?flowsteps ?flowend
          case flowsteps =>
            refine ⟨?_, ?_, ?_, ?_, ?_, ?_, ?_, ?_, ?_, ?_, ?_, ?_, ?_, ?_, ?_, ?_, ?_, ?_, ?_, ?_, ?_, ?_, ?_, ?_, ?_, trivial⟩
            · refine Flow.stepX_val (E := (fun a b => a = b)) rfl (fun _ _ _ _ => ⟨trivial, trivial⟩) (fun _ => rfl) (Flow.StX.keep (by decide)) fun a W hb hI hd => ?_
              have h4 : a.eval (.tmp 4) = .pointer (some ⟨gc, 0, none⟩) := hb.pre' 4 (by kernel_rfl)
              exact ⟨_, rfl, by rw [hGs]; exact h4⟩
            · refine Flow.stepX_val (E := (fun a b => a = b)) rfl (fun _ _ _ _ => ⟨trivial, trivial⟩) (fun _ => rfl) (Flow.StX.keep (by decide)) fun a W hb hI hd => ?_
              have h4 : a.eval (.tmp 4) = .pointer (some ⟨gc, 0, none⟩) := hb.pre' 4 (by kernel_rfl)
              exact ⟨_, rfl, by rw [hGs]; exact h4⟩
            · refine Flow.stepX_val (E := (fun a b => a = b)) rfl (fun _ _ _ _ => ⟨trivial, trivial⟩) (fun _ => rfl) (Flow.StX.keep (by decide)) fun a W hb hI hd => ?_
              have h4 : a.eval (.tmp 4) = .pointer (some ⟨gc, 0, none⟩) := hb.pre' 4 (by kernel_rfl)
              exact ⟨_, rfl, by rw [hGs]; exact h4⟩
            · refine Flow.stepX_val (E := (fun a b => a = b)) rfl (fun _ _ _ _ => ⟨trivial, trivial⟩) (fun _ => rfl) (Flow.StX.keep (by decide)) fun a W hb hI hd => ?_
              have h61 : a.eval (.tmp 61) = .pointer (some ⟨gc, 0, none⟩) := by have h := hd _ (Array.mem_of_getElem? (i := 0) rfl) rfl; rw [hGs] at h; exact h
              have g61 : a.tmps[61]?.getD undef = .pointer (some ⟨gc, 0, none⟩) := by have h := h61; simp only [Act.eval, Array.getD_eq_getD_getElem?] at h; exact h
              exact ⟨.pointer (some ⟨gc, 0, none⟩), by simp [go_sem, g61], by rw [hGs]; rfl⟩
            · refine Flow.stepX_val (E := (fun a b => a = b)) rfl (fun _ _ _ _ => ⟨trivial, trivial⟩) (fun _ => rfl) (Flow.StX.keep (by decide)) fun a W hb hI hd => ?_
              have h62 : a.eval (.tmp 62) = .pointer (some ⟨gc, 0, none⟩) := by have h := hd _ (Array.mem_of_getElem? (i := 0) rfl) rfl; rw [hGs] at h; exact h
              exact ⟨_, run_fa98_1 h62, by rw [hGs]; rfl⟩
            · refine Flow.stepX_early rfl rfl (by decide) (by decide) fun a W hb hI hA hd => ?_
              have h63 : a.eval (.tmp 63) = .pointer (some ⟨gc, 1, none⟩) := by have h := hd _ (Array.mem_of_getElem? (i := 0) rfl) rfl; rw [hGs] at h; exact h
              exact ⟨_, run_load1 h63 (by have h := hA.1.cell 1; exact h), by rw [hGs]; rfl⟩
            · refine Flow.stepX_val (E := (fun a b => a = b)) rfl (fun _ _ _ _ => ⟨trivial, trivial⟩) (fun _ => rfl) (Flow.StX.keep (by decide)) fun a W hb hI hd => ?_
              have h7 : a.eval (.tmp 7) = .pointer (some ⟨gq, 0, none⟩) := hb.pre' 7 (by kernel_rfl)
              have g7 : a.tmps[7]?.getD undef = .pointer (some ⟨gq, 0, none⟩) := by have h := h7; simp only [Act.eval, Array.getD_eq_getD_getElem?] at h; exact h
              exact ⟨.pointer (some ⟨gq, 0, none⟩), by simp [go_sem, g7], by rw [hGs]; rfl⟩
            · refine Flow.stepX_val (E := (fun a b => a = b)) rfl (fun _ _ _ _ => ⟨trivial, trivial⟩) (fun _ => rfl) (Flow.StX.keep (by decide)) fun a W hb hI hd => ?_
              have h65 : a.eval (.tmp 65) = .pointer (some ⟨gq, 0, none⟩) := by have h := hd _ (Array.mem_of_getElem? (i := 0) rfl) rfl; rw [hGs] at h; exact h
              exact ⟨_, run_load1 h65 (by have h := hI.cell 0; exact h), by rw [hGs]; rfl⟩
            · refine Flow.stepX_val (E := (fun a b => a = b)) rfl (fun _ _ _ _ => ⟨trivial, trivial⟩) (fun _ => rfl) (Flow.StX.keep (by decide)) fun a W hb hI hd => ?_
              have h7 : a.eval (.tmp 7) = .pointer (some ⟨gq, 0, none⟩) := hb.pre' 7 (by kernel_rfl)
              have g7 : a.tmps[7]?.getD undef = .pointer (some ⟨gq, 0, none⟩) := by have h := h7; simp only [Act.eval, Array.getD_eq_getD_getElem?] at h; exact h
              exact ⟨.pointer (some ⟨gq, 2, none⟩), by simp [go_sem, g7], by rw [hGs]; rfl⟩
            · refine Flow.stepX_val (E := (fun a b => a = b)) rfl (fun _ _ _ _ => ⟨trivial, trivial⟩) (fun _ => rfl) (Flow.StX.keep (by decide)) fun a W hb hI hd => ?_
              have h67 : a.eval (.tmp 67) = .pointer (some ⟨gq, 2, none⟩) := by have h := hd _ (Array.mem_of_getElem? (i := 0) rfl) rfl; rw [hGs] at h; exact h
              exact ⟨_, run_load1 h67 (by have h := hI.cell 2; exact h), by rw [hGs]; rfl⟩
            · refine Flow.stepX_val (E := (fun a b => a = b)) rfl (fun _ _ _ _ => ⟨trivial, trivial⟩) (fun _ => rfl) (Flow.StX.keep (by decide)) fun a W hb hI hd => ?_
              have h66 : a.eval (.tmp 66) = .int .i64 x := by have h := hd _ (Array.mem_of_getElem? (i := 0) rfl) rfl; rw [hGs] at h; exact h
              have h68 : a.eval (.tmp 68) = .int .i64 z := by have h := hd _ (Array.mem_of_getElem? (i := 1) rfl) rfl; rw [hGs] at h; exact h
              have g66 : a.tmps[66]?.getD undef = .int .i64 x := by have h := h66; simp only [Act.eval, Array.getD_eq_getD_getElem?] at h; exact h
              have g68 : a.tmps[68]?.getD undef = .int .i64 z := by have h := h68; simp only [Act.eval, Array.getD_eq_getD_getElem?] at h; exact h
              exact ⟨.int .i64 (x + z), by simp [go_sem, g66, g68, s1], by rw [hGs]; rfl⟩
            · refine Flow.stepX_val (E := (fun a b => a = b)) rfl (fun _ _ _ _ => ⟨trivial, trivial⟩) (fun _ => rfl) (Flow.StX.keep (by decide)) fun a W hb hI hd => ?_
              have h64 : a.eval (.tmp 64) = .int .i64 W0 := by have h := hd _ (Array.mem_of_getElem? (i := 0) rfl) rfl; rw [hGs] at h; exact h
              have h69 : a.eval (.tmp 69) = .int .i64 (x + z) := by have h := hd _ (Array.mem_of_getElem? (i := 1) rfl) rfl; rw [hGs] at h; exact h
              have g64 : a.tmps[64]?.getD undef = .int .i64 W0 := by have h := h64; simp only [Act.eval, Array.getD_eq_getD_getElem?] at h; exact h
              have g69 : a.tmps[69]?.getD undef = .int .i64 (x + z) := by have h := h69; simp only [Act.eval, Array.getD_eq_getD_getElem?] at h; exact h
              exact ⟨.int .i64 (max W0 (x + z)), by simp [go_sem, g64, g69], by rw [hGs]; rfl⟩
            · refine Flow.stepX_val (E := (fun a b => a = b)) rfl (fun _ _ _ _ => ⟨trivial, trivial⟩) (fun _ => rfl) (Flow.StX.keep (by decide)) fun a W hb hI hd => ?_
              have h4 : a.eval (.tmp 4) = .pointer (some ⟨gc, 0, none⟩) := hb.pre' 4 (by kernel_rfl)
              exact ⟨_, rfl, by rw [hGs]; exact h4⟩
            · refine Flow.stepX_val (E := (fun a b => a = b)) rfl (fun _ _ _ _ => ⟨trivial, trivial⟩) (fun _ => rfl) (Flow.StX.keep (by decide)) fun a W hb hI hd => ?_
              have h71 : a.eval (.tmp 71) = .pointer (some ⟨gc, 0, none⟩) := by have h := hd _ (Array.mem_of_getElem? (i := 0) rfl) rfl; rw [hGs] at h; exact h
              have g71 : a.tmps[71]?.getD undef = .pointer (some ⟨gc, 0, none⟩) := by have h := h71; simp only [Act.eval, Array.getD_eq_getD_getElem?] at h; exact h
              exact ⟨.pointer (some ⟨gc, 0, none⟩), by simp [go_sem, g71], by rw [hGs]; rfl⟩
            · refine Flow.stepX_val (E := (fun a b => a = b)) rfl (fun _ _ _ _ => ⟨trivial, trivial⟩) (fun _ => rfl) (Flow.StX.keep (by decide)) fun a W hb hI hd => ?_
              have h72 : a.eval (.tmp 72) = .pointer (some ⟨gc, 0, none⟩) := by have h := hd _ (Array.mem_of_getElem? (i := 0) rfl) rfl; rw [hGs] at h; exact h
              exact ⟨_, run_fa98_2 h72, by rw [hGs]; rfl⟩
            · refine Flow.stepX_early rfl rfl (by decide) (by decide) fun a W hb hI hA hd => ?_
              have h73 : a.eval (.tmp 73) = .pointer (some ⟨gc, 2, none⟩) := by have h := hd _ (Array.mem_of_getElem? (i := 0) rfl) rfl; rw [hGs] at h; exact h
              exact ⟨_, run_load1 h73 (by have h := hA.1.cell 2; exact h), by rw [hGs]; rfl⟩
            · refine Flow.stepX_val (E := (fun a b => a = b)) rfl (fun _ _ _ _ => ⟨trivial, trivial⟩) (fun _ => rfl) (Flow.StX.keep (by decide)) fun a W hb hI hd => ?_
              have h7 : a.eval (.tmp 7) = .pointer (some ⟨gq, 0, none⟩) := hb.pre' 7 (by kernel_rfl)
              have g7 : a.tmps[7]?.getD undef = .pointer (some ⟨gq, 0, none⟩) := by have h := h7; simp only [Act.eval, Array.getD_eq_getD_getElem?] at h; exact h
              exact ⟨.pointer (some ⟨gq, 1, none⟩), by simp [go_sem, g7], by rw [hGs]; rfl⟩
            · refine Flow.stepX_val (E := (fun a b => a = b)) rfl (fun _ _ _ _ => ⟨trivial, trivial⟩) (fun _ => rfl) (Flow.StX.keep (by decide)) fun a W hb hI hd => ?_
              have h75 : a.eval (.tmp 75) = .pointer (some ⟨gq, 1, none⟩) := by have h := hd _ (Array.mem_of_getElem? (i := 0) rfl) rfl; rw [hGs] at h; exact h
              exact ⟨_, run_load1 h75 (by have h := hI.cell 1; exact h), by rw [hGs]; rfl⟩
            · refine Flow.stepX_val (E := (fun a b => a = b)) rfl (fun _ _ _ _ => ⟨trivial, trivial⟩) (fun _ => rfl) (Flow.StX.keep (by decide)) fun a W hb hI hd => ?_
              have h7 : a.eval (.tmp 7) = .pointer (some ⟨gq, 0, none⟩) := hb.pre' 7 (by kernel_rfl)
              have g7 : a.tmps[7]?.getD undef = .pointer (some ⟨gq, 0, none⟩) := by have h := h7; simp only [Act.eval, Array.getD_eq_getD_getElem?] at h; exact h
              exact ⟨.pointer (some ⟨gq, 2, none⟩), by simp [go_sem, g7], by rw [hGs]; rfl⟩
            · refine Flow.stepX_val (E := (fun a b => a = b)) rfl (fun _ _ _ _ => ⟨trivial, trivial⟩) (fun _ => rfl) (Flow.StX.keep (by decide)) fun a W hb hI hd => ?_
              have h77 : a.eval (.tmp 77) = .pointer (some ⟨gq, 2, none⟩) := by have h := hd _ (Array.mem_of_getElem? (i := 0) rfl) rfl; rw [hGs] at h; exact h
              exact ⟨_, run_load1 h77 (by have h := hI.cell 2; exact h), by rw [hGs]; rfl⟩
            · refine Flow.stepX_val (E := (fun a b => a = b)) rfl (fun _ _ _ _ => ⟨trivial, trivial⟩) (fun _ => rfl) (Flow.StX.keep (by decide)) fun a W hb hI hd => ?_
              have h76 : a.eval (.tmp 76) = .int .i64 y := by have h := hd _ (Array.mem_of_getElem? (i := 0) rfl) rfl; rw [hGs] at h; exact h
              have h78 : a.eval (.tmp 78) = .int .i64 z := by have h := hd _ (Array.mem_of_getElem? (i := 1) rfl) rfl; rw [hGs] at h; exact h
              have g76 : a.tmps[76]?.getD undef = .int .i64 y := by have h := h76; simp only [Act.eval, Array.getD_eq_getD_getElem?] at h; exact h
              have g78 : a.tmps[78]?.getD undef = .int .i64 z := by have h := h78; simp only [Act.eval, Array.getD_eq_getD_getElem?] at h; exact h
              exact ⟨.int .i64 (y + z), by simp [go_sem, g76, g78, s2], by rw [hGs]; rfl⟩
            · refine Flow.stepX_val (E := (fun a b => a = b)) rfl (fun _ _ _ _ => ⟨trivial, trivial⟩) (fun _ => rfl) (Flow.StX.keep (by decide)) fun a W hb hI hd => ?_
              have h74 : a.eval (.tmp 74) = .int .i64 H0 := by have h := hd _ (Array.mem_of_getElem? (i := 0) rfl) rfl; rw [hGs] at h; exact h
              have h79 : a.eval (.tmp 79) = .int .i64 (y + z) := by have h := hd _ (Array.mem_of_getElem? (i := 1) rfl) rfl; rw [hGs] at h; exact h
              have g74 : a.tmps[74]?.getD undef = .int .i64 H0 := by have h := h74; simp only [Act.eval, Array.getD_eq_getD_getElem?] at h; exact h
              have g79 : a.tmps[79]?.getD undef = .int .i64 (y + z) := by have h := h79; simp only [Act.eval, Array.getD_eq_getD_getElem?] at h; exact h
              exact ⟨.int .i64 (max H0 (y + z)), by simp [go_sem, g74, g79], by rw [hGs]; rfl⟩
            · refine Flow.stepX_val (E := (fun a b => a = b)) rfl (fun _ _ _ _ => ⟨trivial, trivial⟩) (fun _ => rfl) (Flow.StX.keep (by decide)) fun a W hb hI hd => ?_
              have h59 : a.eval (.tmp 59) = .pointer (some ⟨gc, 0, none⟩) := by have h := hd _ (Array.mem_of_getElem? (i := 0) rfl) rfl; rw [hGs] at h; exact h
              have g59 : a.tmps[59]?.getD undef = .pointer (some ⟨gc, 0, none⟩) := by have h := h59; simp only [Act.eval, Array.getD_eq_getD_getElem?] at h; exact h
              exact ⟨.pointer (some ⟨gc, 0, none⟩), by simp [go_sem, g59], by rw [hGs]; rfl⟩
            · refine Flow.stepX_val (E := (fun a b => a = b)) rfl (fun _ _ _ _ => ⟨trivial, trivial⟩) (fun _ => rfl) (Flow.StX.keep (by decide)) fun a W hb hI hd => ?_
              have h81 : a.eval (.tmp 81) = .pointer (some ⟨gc, 0, none⟩) := by have h := hd _ (Array.mem_of_getElem? (i := 0) rfl) rfl; rw [hGs] at h; exact h
              exact ⟨_, run_fa98_1 h81, by rw [hGs]; rfl⟩
            · refine Flow.stepX_to rfl fun listed a W hb hI hX hl hdone hd => ?_
              have h82 : a.eval (.tmp 82) = .pointer (some ⟨gc, 1, none⟩) := by have h := hd _ (Array.mem_of_getElem? (i := 0) rfl) rfl; rw [hGs] at h; exact h
              have h70 : a.eval (.tmp 70) = .int .i64 (max W0 (x + z)) := by have h := hd _ (Array.mem_of_getElem? (i := 1) rfl) rfl; rw [hGs] at h; exact h
              have e5 := hdone _ (Array.mem_of_getElem? (i := 7) rfl) rfl
              have e15 := hdone _ (Array.mem_of_getElem? (i := 17) rfl) rfl
              obtain ⟨hA, hKa⟩ := hX.2.1 (Flow.getD_ff hl)
              have hB1 : Blk (W.setCell ⟨gc, 1, none⟩ (.int .i64 (max W0 (x + z)))) gc 98 #[.slice (some ⟨gl, 0, none⟩) l.length cl, .int .i64 (max W0 (x + z)), .int .i64 H0] := hA.set_ 1 _
              exact ⟨undef, _, .inr ⟨run_store3 h82 h70 (by have h := hA.cell 1; exact h) (hA.frozen 1), rfl⟩, by rw [hGs]; exact trivial, hI.far (p := ⟨gc, 1, none⟩) n1 _, fun j hj _ => hst.at trivial j hj, fun _ _ _ _ _ => ⟨trivial, trivial⟩, hX.store hl (fun d hd => by simp only [List.mem_cons, List.not_mem_nil, or_false] at hd; exact hd.elim (fun e => e ▸ e5) (fun e => e ▸ e15)) ⟨hB1, hKa.setCell (p := ⟨gc, 1, none⟩) (.inl rfl) _⟩⟩
          case flowend =>
            rw [hGs]
            refine fun W hI v0 h0 v1 h1 v2 h2 v3 h3 v4 h4 v5 h5 v6 h6 v7 h7 v8 h8 v9 h9 v10 h10 v11 h11 v12 h12 v13 h13 v14 h14 v15 h15 v16 h16 v17 h17 v18 h18 v19 h19 v20 h20 v21 h21 v22 h22 v23 h23 v24 h24 _ hXd => ?_
            obtain rfl : .pointer (some ⟨gc, 0, none⟩) = v0 := Eq.symm h0; clear h0
            obtain rfl : .pointer (some ⟨gc, 0, none⟩) = v1 := Eq.symm h1; clear h1
            obtain rfl : .pointer (some ⟨gc, 0, none⟩) = v2 := Eq.symm h2; clear h2
            obtain rfl : .pointer (some ⟨gc, 0, none⟩) = v3 := Eq.symm h3; clear h3
            obtain rfl : .pointer (some ⟨gc, 1, none⟩) = v4 := Eq.symm h4; clear h4
            obtain rfl : .int .i64 W0 = v5 := Eq.symm h5; clear h5
            obtain rfl : .pointer (some ⟨gq, 0, none⟩) = v6 := Eq.symm h6; clear h6
            obtain rfl : .int .i64 x = v7 := Eq.symm h7; clear h7
            obtain rfl : .pointer (some ⟨gq, 2, none⟩) = v8 := Eq.symm h8; clear h8
            obtain rfl : .int .i64 z = v9 := Eq.symm h9; clear h9
            obtain rfl : .int .i64 (x + z) = v10 := Eq.symm h10; clear h10
            obtain rfl : .int .i64 (max W0 (x + z)) = v11 := Eq.symm h11; clear h11
            obtain rfl : .pointer (some ⟨gc, 0, none⟩) = v12 := Eq.symm h12; clear h12
            obtain rfl : .pointer (some ⟨gc, 0, none⟩) = v13 := Eq.symm h13; clear h13
            obtain rfl : .pointer (some ⟨gc, 2, none⟩) = v14 := Eq.symm h14; clear h14
            obtain rfl : .int .i64 H0 = v15 := Eq.symm h15; clear h15
            obtain rfl : .pointer (some ⟨gq, 1, none⟩) = v16 := Eq.symm h16; clear h16
            obtain rfl : .int .i64 y = v17 := Eq.symm h17; clear h17
            obtain rfl : .pointer (some ⟨gq, 2, none⟩) = v18 := Eq.symm h18; clear h18
            obtain rfl : .int .i64 z = v19 := Eq.symm h19; clear h19
            obtain rfl : .int .i64 (y + z) = v20 := Eq.symm h20; clear h20
            obtain rfl : .int .i64 (max H0 (y + z)) = v21 := Eq.symm h21; clear h21
            obtain rfl : .pointer (some ⟨gc, 0, none⟩) = v22 := Eq.symm h22; clear h22
            obtain rfl : .pointer (some ⟨gc, 1, none⟩) = v23 := Eq.symm h23; clear h23
            replace h24 : (fun _ _ => True) v24 W := h24
            clear hst hGs
            show wpList _ _ _ _ _ _
            simp only [List.drop_succ_cons, List.drop_zero, Act.put, List.setIfInBounds_toArray, List.set_cons_zero, List.set_cons_succ]
            obtain ⟨hB6, hK6⟩ := hXd.2.2 (by rfl)
            clear hXd
            have c2 := hB6.cell 2
            have f2 := hB6.frozen 2
            simp at c2
            obtain ⟨w6, hw6⟩ : ∃ w6, W.setCell ⟨gc, 2, none⟩ (.int .i64 (max H0 (y + z))) = w6 := ⟨_, rfl⟩
            have hK : Keep (fun b => b = gc) w4 w6 := by rw [← hw6]; exact hK6.setCell (p := ⟨gc, 2, none⟩) (.inl rfl) _
            have hB7 : Blk w6 gc 98 #[.slice (some ⟨gl, 0, none⟩) l.length cl, .int .i64 (max W0 (x + z)), .int .i64 (max H0 (y + z))] := by rw [← hw6]; exact hB6.set_ 2 _
            have hq6 : Blk w6 gq 47 #[.int .i64 x, .int .i64 y, .int .i64 z] := by rw [← hw6]; exact hI.far (p := ⟨gc, 2, none⟩) n1 _
            have hown6 := own_keep (show w4.ownsRow w.heap.size 47 3 (.slice (some ⟨gl, 0, none⟩) l.length cl) l.length (l.flatMap sqCells) from HOwn4.out) hK (fun b hb e => by
              subst e
              exact (own_ty HOwn4.out b hb).ne HB4.out.ty (by decide) rfl)
            have hE6 : Ext w w6 := hK.ext_of HE4.out (fun i hi => by rw [hi]; exact hgcw)
            have HB6 := hide hB7; have HOwn6 := hide hown6; have HE6 := hide hE6
            have r2 := hq6.cell 2
            simp at r2
            clear hK hB6 hB7 hK6 hq6 hown6 hE6 hI s1 s2
            go_wp2_with fail
            go_roundw
            case rel =>
              have hqk : sqAt l k = (x, y, z) := HQ.out
              refine ⟨k + 1, by omega, by go_num, ?_, fun j hj => ?_, ?_, HOwn6.out, HE6.out⟩
              · show _ = Value.int IntKind.i64 (arTo l k + (sqAt l k).2.2 * (sqAt l k).2.2)
                rw [hqk, HA0.out]
              · rcases Nat.lt_or_ge j k with h | h
                · exact HNb.out j h
                · obtain rfl : j = k := by omega
                  rw [hqk]; exact HNbk.out
              · show Blk _ gc 98 #[_, .int .i64 (max (wTo l k) ((sqAt l k).1 + (sqAt l k).2.2)), .int .i64 (max (hTo l k) ((sqAt l k).2.1 + (sqAt l k).2.2))]
                rw [hqk, HW0.out, HH0.out]; exact HB6.out
            case measure => simp [intOf]; omega
      · obtain rfl : k = l.length := by omega
        have hnb : ¬ ∃ q ∈ l, sqBad q := by
          rintro ⟨q, hq, hb⟩
          obtain ⟨j, hj, rfl⟩ := List.getElem_of_mem hq
          exact HNb.out j hj (by rw [show sqAt l j = l[j] by simp [sqAt, List.getD, hj]]; exact hb)
        have HNB := hide hnb
        clear hnb
        go_wp2_with fail
        go_loopw [95] (fun s95 wr => ∃ (i : Nat), i ≤ l.length ∧ s95 = .int .i64 (i : Int) ∧ (∀ i', i' < i → ∀ k', k' < i' → sqApart (sqAt l i') (sqAt l k')) ∧ Blk wr gc 98 #[.slice (some ⟨gl, 0, none⟩) l.length cl, .int .i64 W0, .int .i64 H0] ∧
            wr.ownsRow w.heap.size 47 3 (.slice (some ⟨gl, 0, none⟩) l.length cl) l.length (l.flatMap sqCells) ∧ Ext w wr) (fun s95 _ => l.length - (intOf s95).toNat)
        case atStart => exact ⟨0, Nat.zero_le _, rfl, fun i' hi' => by omega, HB3.out, HOwn3.out, HE3.out⟩
        case round =>
          obtain ⟨i, hi, rfl, hap, hB, hown, hE⟩ := hrel
          have HAp := hide hap; have HB5 := hide hB; have HOwn5 := hide hown; have HE5 := hide hE
          clear hap hB hown hE
          obtain ⟨w5, hw5⟩ : ∃ w0, w0 = wr := ⟨_, rfl⟩
          subst hw5
          by_cases hlt : i < l.length
          · obtain ⟨a0, a1, a2⟩ := HCells.out i hlt
            obtain ⟨⟨x, y, z⟩, hq⟩ : ∃ q, l.getD i (0, 0, 0) = q := ⟨_, rfl⟩
            rw [hq] at a0 a1 a2
            simp only [] at a0 a1 a2
            have b0 : w5.cell? ⟨b, off + i * 3, none⟩ = some (.int .i64 x) := (HE5.out.cell (p := ⟨b, off + i * 3, none⟩) hbt.lt).trans a0
            have b1 : w5.cell? ⟨b, off + i * 3 + 1, none⟩ = some (.int .i64 y) := (HE5.out.cell (p := ⟨b, off + i * 3 + 1, none⟩) hbt.lt).trans a1
            have b2 : w5.cell? ⟨b, off + i * 3 + 2, none⟩ = some (.int .i64 z) := (HE5.out.cell (p := ⟨b, off + i * 3 + 2, none⟩) hbt.lt).trans a2
            have HQ := hide hq
            have hcapi : i ≤ cap := by omega
            clear a0 a1 a2 hq
            go_wp2_with fail
            have hEb : Ext w5 (w5.alloc (.cells #[.int .i64 x, .int .i64 y, .int .i64 z] 47)) := (Below.refl _ _).alloc (Nat.le_refl _) _
            obtain ⟨gs, hgs⟩ : ∃ g, w5.heap.size = g := ⟨_, rfl⟩
            have HBs := hide (show Blk (w5.alloc (.cells #[.int .i64 x, .int .i64 y, .int .i64 z] 47)) gs 47 #[.int .i64 x, .int .i64 y, .int .i64 z] from Blk.new' _ _ _ _ hgs.symm)
            have HB6 := hide (HB5.out.ext hEb); have HOwn6 := hide (own_ext HOwn5.out hEb); have HE6 := hide (HE5.out.tr hEb)
            rw [hgs]
            generalize w5.alloc (.cells #[.int .i64 x, .int .i64 y, .int .i64 z] 47) = w6 at HBs HB6 HOwn6 HE6 ⊢
            clear hEb hgs b0 b1 b2
            have HNbi := hide (show ¬ sqBad (x, y, z) from by have h := HNb.out i hlt; rw [show sqAt l i = (x, y, z) from HQ.out] at h; exact h)
            go_loopw [104] (fun s104 wr => ∃ (k : Nat), k ≤ i ∧ s104 = .int .i64 (k : Int) ∧ (∀ k', k' < k → sqApart (x, y, z) (sqAt l k')) ∧ Blk wr gs 47 #[.int .i64 x, .int .i64 y, .int .i64 z] ∧ Blk wr gc 98 #[.slice (some ⟨gl, 0, none⟩) l.length cl, .int .i64 W0, .int .i64 H0] ∧
                wr.ownsRow w.heap.size 47 3 (.slice (some ⟨gl, 0, none⟩) l.length cl) l.length (l.flatMap sqCells) ∧ Ext w wr) (fun s104 _ => i - (intOf s104).toNat)
            case atStart => exact ⟨0, Nat.zero_le _, rfl, fun k' hk' => by omega, HBs.out, HB6.out, HOwn6.out, HE6.out⟩
            case round =>
              obtain ⟨k, hk', rfl, hap, hBs, hB, hown, hE⟩ := hrel
              have HAp2 := hide hap; have HBs7 := hide hBs; have HB7 := hide hB; have HOwn7 := hide hown; have HE7 := hide hE
              have s0 := hBs.cell 0
              have s1 := hBs.cell 1
              have s2 := hBs.cell 2
              simp at s0 s1 s2
              clear hap hBs hB hown hE
              obtain ⟨w7, hw7⟩ : ∃ w0, w0 = wr := ⟨_, rfl⟩
              subst hw7
              by_cases hlt2 : k < i
              · have hkl : k < l.length := by omega
                obtain ⟨a0, a1, a2⟩ := HCells.out k hkl
                obtain ⟨⟨x', y', z'⟩, hq⟩ : ∃ q, l.getD k (0, 0, 0) = q := ⟨_, rfl⟩
                rw [hq] at a0 a1 a2
                simp only [] at a0 a1 a2
                have b0 : w7.cell? ⟨b, off + k * 3, none⟩ = some (.int .i64 x') := (HE7.out.cell (p := ⟨b, off + k * 3, none⟩) hbt.lt).trans a0
                have b1 : w7.cell? ⟨b, off + k * 3 + 1, none⟩ = some (.int .i64 y') := (HE7.out.cell (p := ⟨b, off + k * 3 + 1, none⟩) hbt.lt).trans a1
                have b2 : w7.cell? ⟨b, off + k * 3 + 2, none⟩ = some (.int .i64 z') := (HE7.out.cell (p := ⟨b, off + k * 3 + 2, none⟩) hbt.lt).trans a2
                have HQ2 := hide hq
                have HNbk := hide (show ¬ sqBad (x', y', z') from by have h := HNb.out k hkl; rw [show sqAt l k = (x', y', z') from HQ2.out] at h; exact h)
                have gsl := HBs7.out.lt
                clear a0 a1 a2 hq
                by_cases hapk : sqApart (x, y, z) (x', y', z')
                · have hne : ¬ (x = x' ∧ y = y' ∧ z = z') := by
                    have h1 := HNbi.out; have h2 := HNbk.out
                    unfold sqBad at h1 h2; unfold sqApart at hapk
                    simp only [] at h1 h2 hapk
                    omega
                  have HApk := hide hapk; have HNe := hide hne
                  have HCa : Hid (∀ u1 u2 u3 W, u1 = x → u2 = y → u3 = z → Calls Tryz.prog 98 #[.agg #[.int .i64 u1, .int .i64 u2, .int .i64 u3], .agg #[.int .i64 x', .int .i64 y', .int .i64 z']] W fun e w' => e = .returned (.bool true) ∧ Ext W w') := by
                    intro u1 u2 u3 W h1 h2 h3
                    subst h1 h2 h3
                    have h := apart_any (u1, u2, u3) (x', y', z') W HNbi.out HNbk.out
                    rw [decide_eq_true hapk] at h
                    exact h
                  clear hapk hne
                  by_cases h1 : x = x'
                  · subst h1
                    by_cases h2 : y = y'
                    · subst h2
                      have h3 : (z == z') = false := by simp; exact fun h => HNe.out ⟨rfl, rfl, h⟩
                      go_wp2_with fail
                      (with_reducible refine (HCa.out _ _ _ _ rfl rfl rfl).mono ?_)
                      rintro e w8 ⟨rfl, Ea⟩
                      have Eb := Ext.tr ((Below.refl w7.heap.size w7).alloc (Nat.le_refl _) (.cells #[.int .i64 x, .int .i64 y, .int .i64 z'] 47)) Ea
                      have k1 := hide (HBs7.out.ext Eb); have k2 := hide (HB7.out.ext Eb); have k3 := hide (own_ext HOwn7.out Eb); have k4 := hide (HE7.out.tr Eb)
                      clear Ea Eb s0 s1 s2 b0 b1 b2
                      go_wp2_with fail
                      go_roundw
                      case rel =>
                        refine ⟨k + 1, by omega, by go_num, fun k' hkk => ?_, k1.out, k2.out, k3.out, k4.out⟩
                        rcases Nat.lt_or_ge k' k with h | h
                        · exact HAp2.out k' h
                        · obtain rfl : k' = k := by omega
                          have h := HApk.out
                          rw [← show sqAt l k' = _ from HQ2.out] at h
                          exact h
                      case measure => simp [intOf]; omega
                    · have h3 : (y == y') = false := by simpa using h2
                      clear h2
                      go_wp2_with fail
                      (with_reducible refine (HCa.out _ _ _ _ rfl rfl rfl).mono ?_)
                      rintro e w8 ⟨rfl, Ea⟩
                      have Eb := Ext.tr ((Below.refl w7.heap.size w7).alloc (Nat.le_refl _) (.cells #[.int .i64 x, .int .i64 y', .int .i64 z'] 47)) Ea
                      have k1 := hide (HBs7.out.ext Eb); have k2 := hide (HB7.out.ext Eb); have k3 := hide (own_ext HOwn7.out Eb); have k4 := hide (HE7.out.tr Eb)
                      clear Ea Eb s0 s1 s2 b0 b1 b2
                      go_wp2_with fail
                      go_roundw
                      case rel =>
                        refine ⟨k + 1, by omega, by go_num, fun k' hkk => ?_, k1.out, k2.out, k3.out, k4.out⟩
                        rcases Nat.lt_or_ge k' k with h | h
                        · exact HAp2.out k' h
                        · obtain rfl : k' = k := by omega
                          have h := HApk.out
                          rw [← show sqAt l k' = _ from HQ2.out] at h
                          exact h
                      case measure => simp [intOf]; omega
                  · have h3 : (x == x') = false := by simpa using h1
                    clear h1
                    go_wp2_with fail
                    (with_reducible refine (HCa.out _ _ _ _ rfl rfl rfl).mono ?_)
                    rintro e w8 ⟨rfl, Ea⟩
                    have Eb := Ext.tr ((Below.refl w7.heap.size w7).alloc (Nat.le_refl _) (.cells #[.int .i64 x', .int .i64 y', .int .i64 z'] 47)) Ea
                    have k1 := hide (HBs7.out.ext Eb); have k2 := hide (HB7.out.ext Eb); have k3 := hide (own_ext HOwn7.out Eb); have k4 := hide (HE7.out.tr Eb)
                    clear Ea Eb s0 s1 s2 b0 b1 b2
                    go_wp2_with fail
                    go_roundw
                    case rel =>
                      refine ⟨k + 1, by omega, by go_num, fun k' hkk => ?_, k1.out, k2.out, k3.out, k4.out⟩
                      rcases Nat.lt_or_ge k' k with h | h
                      · exact HAp2.out k' h
                      · obtain rfl : k' = k := by omega
                        have h := HApk.out
                        rw [← show sqAt l k' = _ from HQ2.out] at h
                        exact h
                    case measure => simp [intOf]; omega
                · have hpb : pairBad l := ⟨i, hlt, k, hlt2, by rw [show sqAt l i = _ from HQ.out, show sqAt l k = _ from HQ2.out]; exact hapk⟩
                  have HErr := hide (readErr_pair H24.out HNB.out hpb)
                  have HCa : Hid (∀ u1 u2 u3 W, u1 = x → u2 = y → u3 = z → Calls Tryz.prog 98 #[.agg #[.int .i64 u1, .int .i64 u2, .int .i64 u3], .agg #[.int .i64 x', .int .i64 y', .int .i64 z']] W fun e w' => e = .returned (.bool false) ∧ Ext W w') := by
                    intro u1 u2 u3 W h1 h2 h3
                    subst h1 h2 h3
                    have h := apart_any (u1, u2, u3) (x', y', z') W HNbi.out HNbk.out
                    rw [decide_eq_false hapk] at h
                    exact h
                  have HEa := hide (HE7.out.tr ((Below.refl w7.heap.size w7).alloc (Nat.le_refl _) (.cells #[.int .i64 x', .int .i64 y', .int .i64 z'] 47)))
                  clear hapk hpb
                  by_cases h1 : x = x'
                  · subst h1
                    by_cases h2 : y = y'
                    · subst h2
                      by_cases h4 : z = z'
                      · subst h4
                        go_wp2
                        go_ret2
                        exact ⟨HEa.out, .inl ⟨by rw [HErr.out]; decide, by rw [HErr.out]; rfl⟩⟩
                      · have h3 : (z == z') = false := by simpa using h4
                        clear h4
                        go_wp2_with fail
                        (with_reducible refine (HCa.out _ _ _ _ rfl rfl rfl).mono ?_)
                        rintro e w8 ⟨rfl, Ea⟩
                        have k4 := hide (HEa.out.tr Ea)
                        clear Ea s0 s1 s2 b0 b1 b2
                        go_wp2
                        go_ret2
                        exact ⟨k4.out, .inl ⟨by rw [HErr.out]; decide, by rw [HErr.out]; rfl⟩⟩
                    · have h3 : (y == y') = false := by simpa using h2
                      clear h2
                      go_wp2_with fail
                      (with_reducible refine (HCa.out _ _ _ _ rfl rfl rfl).mono ?_)
                      rintro e w8 ⟨rfl, Ea⟩
                      have k4 := hide (HEa.out.tr Ea)
                      clear Ea s0 s1 s2 b0 b1 b2
                      go_wp2
                      go_ret2
                      exact ⟨k4.out, .inl ⟨by rw [HErr.out]; decide, by rw [HErr.out]; rfl⟩⟩
                  · have h3 : (x == x') = false := by simpa using h1
                    clear h1
                    go_wp2_with fail
                    (with_reducible refine (HCa.out _ _ _ _ rfl rfl rfl).mono ?_)
                    rintro e w8 ⟨rfl, Ea⟩
                    have k4 := hide (HEa.out.tr Ea)
                    clear Ea s0 s1 s2 b0 b1 b2
                    go_wp2
                    go_ret2
                    exact ⟨k4.out, .inl ⟨by rw [HErr.out]; decide, by rw [HErr.out]; rfl⟩⟩
              · have hki : k = i := by omega
                clear s0 s1 s2
                have HKi := hide hki
                clear hki
                go_wp2_with fail
                go_roundw
                case rel =>
                  refine ⟨i + 1, by omega, by go_num, fun i' hi' k' hkk => ?_, HB7.out, HOwn7.out, HE7.out⟩
                  rcases Nat.lt_or_ge i' i with h | h
                  · exact HAp.out i' h k' hkk
                  · obtain rfl : i' = i := by omega
                    have h := HAp2.out k' (by rw [HKi.out]; exact hkk)
                    rw [← show sqAt l i' = _ from HQ.out] at h
                    exact h
                case measure => simp [intOf]; omega
          · obtain rfl : i = l.length := by omega
            have hpb : ¬ pairBad l := by
              rintro ⟨i, hi, k, hk, hna⟩
              exact hna (HAp.out i hi k hk)
            have HPb := hide hpb
            have c1 := HB5.out.cell 1
            have c2 := HB5.out.cell 2
            have c0 := HB5.out.cell 0
            simp at c0 c1 c2
            have wh0 : 0 ≤ W0 * H0 := Int.mul_nonneg (by omega) (by omega)
            have wh1 : W0 * H0 ≤ 1000000 := Int.le_trans (Int.mul_le_mul_of_nonneg_right w1' h0') (by omega)
            clear hpb
            by_cases ha0 : A0 = 0
            · have HErr := hide (readErr_area H24.out HNB.out HPb.out (.inl (HA0.out.trans ha0)))
              have t5 : (A0 == 0) = true := by simpa using ha0
              clear ha0
              go_wp2_with fail
              go_quiet (fail)
              go_wp2
              go_ret2
              exact ⟨below_drewN HE5.out _, .inl ⟨by rw [HErr.out]; decide, by rw [HErr.out]; rfl⟩⟩
            · have t5 : (A0 == 0) = false := by simpa using ha0
              by_cases hwh : A0 = W0 * H0
              · have HErr := hide (readErr_ok H24.out HNB.out HPb.out (fun h => by
                  rw [HA0.out, HW0.out, HH0.out] at h
                  rcases h with h | h
                  · exact ha0 h
                  · exact h hwh))
                have t6 : (A0 != W0 * H0) = false := by simpa using hwh
                clear ha0 hwh
                go_wp2_with fail
                go_quiet (fail)
                have HSort := hide (sortSq_any _ l w.heap.size (w5.drewN nq) HOwn5.out h0 (by omega))
                have HB9 := hide (HB5.out.drewN nq)
                have HE9 := hide (below_drewN HE5.out nq)
                go_wp2_with fail
                refine HSort.out.mono ?_
                rintro e w9 ⟨rfl, l', hperm, hsort, hown9, hk9⟩
                have hB10 := HB9.out.keep hk9 (fun e => (own_ty (show (w5.drewN nq).ownsRow _ _ _ _ _ _ from HOwn5.out) gc e).ne HB9.out.ty (by decide) rfl)
                have hE10 : Ext w w9 := hk9.ext_of HE9.out (fun i hi => (HOwn5.out.lt i hi).1)
                have hlen : l'.length = l.length := hperm.length_eq
                have hS := Sqs.of_own hown9 (by omega)
                have HRes : Hid (ReadRes l w (.returned (.tuple #[.pointer (some ⟨gc, 0, none⟩), .int .i64 0])) w9) :=
                  ⟨hE10, .inr ⟨HErr.out, gc, _, l', rfl, hgcw, by rw [HW0.out, HH0.out]; exact hB10, hS, hperm, hsort⟩⟩
                clear hperm hsort hown9 hk9 hB10 hE10 hlen hS HSort
                go_wp2
                go_ret2
                exact HRes.out
              · have HErr := hide (readErr_area H24.out HNB.out HPb.out (.inr (by rw [HA0.out, HW0.out, HH0.out]; exact hwh)))
                have t6 : (A0 != W0 * H0) = true := by simpa using hwh
                clear ha0 hwh
                go_wp2_with fail
                go_quiet (fail)
                go_wp2
                go_ret2
                exact ⟨below_drewN HE5.out _, .inl ⟨by rw [HErr.out]; decide, by rw [HErr.out]; rfl⟩⟩

end Go.Proofs.YtncabodphjkkfaaGreat
