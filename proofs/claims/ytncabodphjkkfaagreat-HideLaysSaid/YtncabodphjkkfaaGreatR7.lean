/- The network of a cut. Conditions: at least one square. -/
import Derived.Test.YtncabodphjkkfaaGreatR6
import Derived.Test.YtncabodphjkkfaaGreatC1
namespace Go.Proofs.YtncabodphjkkfaaGreat
open Go.RowKit Go.Limbs Go.Shelf

theorem run_enter_cloρ {W : World} {ρ : Operand → Value} {t : Tmp} {x y : Operand} {gl : Nat} {ats : Array TypeId} {dst : Option Tmp} {ty : TypeId} {pos : String} {after : Array Edge} {guard : Option (Nat × Bool)}
    (h : ρ (.tmp t) = .func (.func 53) #[] #[.pointer (some ⟨gl, 0, none⟩)]) : (execOp ρ { dst, op := .call { callee := .value (.tmp t), args := #[x, y], argTypes := ats }, type := ty, pos, after, guard }).run Tryz.prog W = .ok (.enter 53 #[ρ x, ρ y, .pointer (some ⟨gl, 0, none⟩)]) W := by
  have hE : ∀ args w, (callFunc 53 args).run Tryz.prog w = .ok (.enter 53 args) w := enters_of (P := Tryz.prog) Tryz.func53 (by kernel_rfl) rfl
  simp [go_sem, execOp, resolve, Deferred.ofValue, invoke, h, hE]
theorem run_enter_clo {W : World} {a : Act} {t : Tmp} {x y : Operand} {gl : Nat} {ats : Array TypeId} {dst : Option Tmp} {ty : TypeId} {pos : String} {after : Array Edge} {guard : Option (Nat × Bool)}
    (h : a.eval (.tmp t) = .func (.func 53) #[] #[.pointer (some ⟨gl, 0, none⟩)]) : (execOp a.eval { dst, op := .call { callee := .value (.tmp t), args := #[x, y], argTypes := ats }, type := ty, pos, after, guard }).run Tryz.prog W = .ok (.enter 53 #[a.eval x, a.eval y, .pointer (some ⟨gl, 0, none⟩)]) W := run_enter_cloρ h
theorem run_build40 {W : World} {ρ : Operand → Value} {x y : Operand} {a b : Int} {dst : Option Tmp} {ty : TypeId} {pos : String} {after : Array Edge} {guard : Option (Nat × Bool)}
    (hx : ρ x = .int .i64 a) (hy : ρ y = .int .i64 b) : (execOp ρ { dst, op := .build 40 #[(0, x), (1, y)], type := ty, pos, after, guard }).run Tryz.prog W = .ok (.value (.agg #[.int .i64 a, .int .i64 b])) W := by
  simp [go_sem, execOp, hx, hy]
theorem run_buildSlice33 {W : World} {ρ : Operand → Value} {x : Operand} {a b : Int} {dst : Option Tmp} {ty : TypeId} {pos : String} {after : Array Edge} {guard : Option (Nat × Bool)}
    (hx : ρ x = .agg #[.int .i64 a, .int .i64 b]) : (execOp ρ { dst, op := .buildSlice 33 1 #[(0, x)], type := ty, pos, after, guard }).run Tryz.prog W = .ok (.value (.slice (some ⟨W.heap.size, 0, none⟩) 1 1)) (W.alloc (.cells (prCells (a, b)).toArray 40)) := by
  simp [go_sem, execOp, hx, prCells]

def pairsOf (J : List Ln) (l : List Sq) : List Pr := l.map fun q => (onIdx J q.1 q.2.1, onIdx J q.1 (q.2.1 + q.2.2))
/-- What Network hands back. -/
def NetRes (l : List Sq) (w : World) (e : Ending) (w' : World) : Prop :=
  Ext w w' ∧ ((readErr l ≠ 0 ∧ e = .returned (.tuple #[.int .i64 0, .slice none 0 0, .int .i64 (readErr l)])) ∨
    (readErr l = 0 ∧ ∃ u l' s, e = .returned (.tuple #[.int .i64 ((joinTo s (s.length - 1)).length : Int), u, .int .i64 0]) ∧ Prs w' u (pairsOf (joinTo s (s.length - 1)) l') ∧ List.Perm l' l ∧ SortedBy cmpSq l' ∧ List.Perm s (linesOf l') ∧ SortedBy cmpLn s))

theorem readErr_good {l : List Sq} (h : readErr l = 0) : l.length ≤ 24 ∧ ¬ ∃ q ∈ l, sqBad q := by
  unfold readErr at h
  split at h
  · cases h
  · split at h
    · cases h
    · rename_i h1 h2
      exact ⟨by omega, h2⟩

set_option maxRecDepth 100000 in
set_option maxHeartbeats 4000000 in
theorem network_any (v : Value) (l : List Sq) (w : World) (hv : Sqs w v l) (h0 : 0 < l.length) (hm : l.length ≤ 1048576) : Calls Tryz.prog 19 #[v] w (NetRes l w) := by
  have HRead := hide (read_any v l w hv h0)
  obtain ⟨A, cap, rfl, hcap, _, hrd⟩ := hv
  clear hrd
  go_enter Tryz.func19, Tryz.ntmps19
  go_wp2_with fail
  refine HRead.out.mono ?_
  rintro e w1 ⟨E1, h⟩
  rcases h with ⟨hne, rfl⟩ | ⟨he0, gc, vs, l', rfl, hgc, hB, hS, hperm, hsort⟩
  · have t1 : (readErr l != 0) = true := by simpa using hne
    have HRes : Hid (NetRes l w (.returned (.tuple #[.int .i64 0, .slice none 0 0, .int .i64 (readErr l)])) w1) := ⟨E1, .inl ⟨hne, rfl⟩⟩
    clear hne E1 HRead
    go_wp2
    exact bodyPost_ret (v := .tuple #[.int .i64 0, .slice none 0 0, .int .i64 (readErr l)]) (by simp [results, go_sem]) rfl HRes.out
  · obtain ⟨hl24, hnbad⟩ := readErr_good he0
    have hll := hperm.length_eq
    have hnb : ∀ q ∈ l', ¬ sqBad q := fun q hq hb => hnbad ⟨q, hperm.mem_iff.1 hq, hb⟩
    have HLi := hide (lines_any gc vs l' _ _ w1 hB hS (by omega) (by omega) hnb)
    have HB1 := hide hB; have HS1 := hide hS
    have HNb := hide hnb
    have HPerm := hide hperm; have HSort := hide hsort; have HE1 := hide E1; have H00 := hide he0; have HLl := hide hll
    clear hperm hsort E1 hB hS hll he0 HRead hnb hnbad
    go_wp2_with fail
    refine HLi.out.mono ?_
    rintro e w2 ⟨u, s, rfl, hps, hss, hln, E2⟩
    have hsl : s.length = 2 * l'.length := by rw [hps.length_eq, linesOf_length]
    have hll := HLl.out
    have hJL := joinTo_length s (s.length - 1) (by omega)
    obtain ⟨J, hJe⟩ : ∃ J, joinTo s (s.length - 1) = J := ⟨_, rfl⟩
    rw [hJe] at hln hJL
    have hJ0 : 0 < J.length := by omega
    have hJm : J.length ≤ 48 := by omega
    have HPs := hide hps; have HSs := hide hss; have HJe := hide hJe
    have HLn0 := hide hln
    obtain ⟨AJ, cJ, rfl, hcJ, _, _⟩ := hln
    obtain ⟨Av, cv, rfl, hcv, _, hrd⟩ := HS1.out.ext E2
    have HRd := hide hrd
    have HB2 := hide (HB1.out.ext E2)
    have HE2 := hide (HE1.out.tr E2)
    have c00 := (HB2.out.ext (show Ext w2 (w2.alloc (.cells #[.slice AJ J.length cJ] 90)) from (Below.refl _ _).alloc (Nat.le_refl _) _)).cell 0
    have c0 : (w2.alloc (.cells #[.slice AJ J.length cJ] 90)).cell? ⟨gc, 0, none⟩ = some (.slice Av l'.length cv) := c00
    clear c00
    clear hll hps hss hJe hJL hsl hrd E2 HLi HS1 HB1 HE1
    go_wp2_with fail
    obtain ⟨gl, hgl⟩ : ∃ g, w2.heap.size = g := ⟨_, rfl⟩
    have hEa : Ext w2 (w2.alloc (.cells #[.slice AJ J.length cJ] 90)) := (Below.refl _ _).alloc (Nat.le_refl _) _
    have HBl := hide (show Blk (w2.alloc (.cells #[.slice AJ J.length cJ] 90)) gl 90 #[.slice AJ J.length cJ] from Blk.new' _ _ _ _ hgl.symm)
    have HE3 := hide (HE2.out.tr hEa)
    have HLn3 := hide (HLn0.out.ext hEa)
    have HRd3 := hide (HRd.out.ext hEa)
    rw [hgl]
    generalize w2.alloc (.cells #[.slice AJ J.length cJ] 90) = w3 at HBl HE3 HLn3 HRd3 c0 ⊢
    clear hEa hgl HLn0 HRd HB2 HE2
    go_wp2_with fail
    go_loopw [9, 28] (fun o s wr => ∃ (k : Nat), k ≤ l'.length ∧ s = .int .i64 (k : Int) ∧ wr.ownsRow w3.heap.size 40 2 o k ((pairsOf J (l'.take k)).flatMap prCells) ∧ Ext w3 wr) (fun _ s _ => l'.length - (intOf s).toNat)
    case atStart => exact ⟨0, Nat.zero_le _, rfl, World.ownsRow_nil _ _ _ _, Ext.rfl' _⟩
    case round =>
      obtain ⟨k, hk, rfl, hown, hE⟩ := hrel
      have HOwn := hide hown; have HE := hide hE
      clear hown hE
      obtain ⟨w4, hw4⟩ : ∃ w0, w0 = wr := ⟨_, rfl⟩
      subst hw4
      by_cases hlt : k < l'.length
      · obtain ⟨b, off, rfl, hbt, hcells⟩ := Sqs.at HRd3.out hlt
        obtain ⟨a0, a1, a2⟩ := hcells k hlt
        obtain ⟨⟨x, y, z⟩, hq⟩ : ∃ q, l'.getD k (0, 0, 0) = q := ⟨_, rfl⟩
        have hlk : l'[k] = (x, y, z) := by rw [← hq]; simp [List.getD, hlt]
        have hnbk := HNb.out l'[k] (List.getElem_mem hlt)
        rw [hlk] at hnbk
        unfold sqBad at hnbk
        rw [hq] at a0 a1 a2
        simp only [] at a0 a1 a2 hnbk
        have b0 : w4.cell? ⟨b, off + k * 3, none⟩ = some (.int .i64 x) := (HE.out.cell (p := ⟨b, off + k * 3, none⟩) hbt.lt).trans a0
        have b1 : w4.cell? ⟨b, off + k * 3 + 1, none⟩ = some (.int .i64 y) := (HE.out.cell (p := ⟨b, off + k * 3 + 1, none⟩) hbt.lt).trans a1
        have b2 : w4.cell? ⟨b, off + k * 3 + 2, none⟩ = some (.int .i64 z) := (HE.out.cell (p := ⟨b, off + k * 3 + 2, none⟩) hbt.lt).trans a2
        have i1 : 0 ≤ x := by omega
        have i2 : x ≤ 1000 := by omega
        have i3 : 0 ≤ y := by omega
        have i4 : y ≤ 1000 := by omega
        have i5 : 1 ≤ z := by omega
        have i6 : z ≤ 1000 := by omega
        have s2 : IntKind.i64.wrap (y + z) = y + z := IntWalk.i64_in _ (by omega)
        clear a0 a1 a2 hq hcells hnbk
        go_wp2_with fail
        have hEb : Ext w4 (w4.alloc (.cells #[.int .i64 x, .int .i64 y, .int .i64 z] 47)) := (Below.refl _ _).alloc (Nat.le_refl _) _
        obtain ⟨gq, hgq⟩ : ∃ g, w4.heap.size = g := ⟨_, rfl⟩
        have HBq := hide (show Blk (w4.alloc (.cells #[.int .i64 x, .int .i64 y, .int .i64 z] 47)) gq 47 #[.int .i64 x, .int .i64 y, .int .i64 z] from Blk.new' _ _ _ _ hgq.symm)
        have HEz := hide (HE.out.tr hEb); have HOwnz := hide (own_ext HOwn.out hEb)
        rw [hgq]
        generalize w4.alloc (.cells #[.int .i64 x, .int .i64 y, .int .i64 z] 47) = wz at HBq HEz HOwnz ⊢
        clear hEb hgq b0 b1 b2 HOwn
        have HOn : ∀ x y W, Ext wz W → Calls Tryz.prog 53 #[.int .i64 x, .int .i64 y, .pointer (some ⟨gl, 0, none⟩)] W fun e w' => e = .returned (.int .i64 (onIdx J x y)) ∧ Ext W w' := fun x y W hW =>
          on_any x y J (.slice AJ J.length cJ) gl W ((((HBl.out.ext HEz.out).ext hW).cell 0).trans rfl) (((HBl.out.ext HEz.out).ext hW).lt) ((HLn3.out.ext HEz.out).ext hW) hJ0 (by omega)
        replace HOn := hide HOn
        obtain ⟨Gs, hGs⟩ : ∃ Gs : List (Value → World → Prop), Gs = [(fun v _ => v = u9), (fun v _ => v = .func (.func 53) #[] #[.pointer (some ⟨gl, 0, none⟩)]), (fun v _ => v = .pointer (some ⟨gq, 0, none⟩)), (fun v _ => v = .int .i64 x), (fun v _ => v = .pointer (some ⟨gq, 1, none⟩)), (fun v _ => v = .int .i64 y), (fun v _ => v = .int .i64 (onIdx J x y)), (fun v _ => v = .func (.func 53) #[] #[.pointer (some ⟨gl, 0, none⟩)]), (fun v _ => v = .pointer (some ⟨gq, 0, none⟩)), (fun v _ => v = .int .i64 x), (fun v _ => v = .pointer (some ⟨gq, 1, none⟩)), (fun v _ => v = .int .i64 y), (fun v _ => v = .pointer (some ⟨gq, 2, none⟩)), (fun v _ => v = .int .i64 z), (fun v _ => v = .int .i64 (y + z)), (fun v _ => v = .int .i64 (onIdx J x (y + z))), (fun v _ => v = .agg #[.int .i64 (onIdx J x y), .int .i64 (onIdx J x (y + z))]), (fun v W => ∃ g, v = .slice (some ⟨g, 0, none⟩) 1 1 ∧ Blk W g 40 (prCells (onIdx J x y, onIdx J x (y + z))).toArray)] := ⟨_, rfl⟩
        have hst : Flow.Stay Ext Gs := by rw [hGs]; exact (Flow.Stay.cons (fun _ _ _ _ h => h) (Flow.Stay.cons (fun _ _ _ _ h => h) (Flow.Stay.cons (fun _ _ _ _ h => h) (Flow.Stay.cons (fun _ _ _ _ h => h) (Flow.Stay.cons (fun _ _ _ _ h => h) (Flow.Stay.cons (fun _ _ _ _ h => h) (Flow.Stay.cons (fun _ _ _ _ h => h) (Flow.Stay.cons (fun _ _ _ _ h => h) (Flow.Stay.cons (fun _ _ _ _ h => h) (Flow.Stay.cons (fun _ _ _ _ h => h) (Flow.Stay.cons (fun _ _ _ _ h => h) (Flow.Stay.cons (fun _ _ _ _ h => h) (Flow.Stay.cons (fun _ _ _ _ h => h) (Flow.Stay.cons (fun _ _ _ _ h => h) (Flow.Stay.cons (fun _ _ _ _ h => h) (Flow.Stay.cons (fun _ _ _ _ h => h) (Flow.Stay.cons (fun _ _ _ _ h => h) (Flow.Stay.cons (fun _ _ E _ h => by obtain ⟨g, h1, h2⟩ := h; exact ⟨g, h1, h2.ext E⟩) Flow.Stay.nil))))))))))))))))))
        refine Flow.wp_region_flow 18 (by kernel_rfl) (fun W => Ext wz W) Gs (by kernel_rfl) (Ext.rfl' wz).drew ?flowsteps ?flowend
        case flowsteps =>
          refine ⟨?_, ?_, ?_, ?_, ?_, ?_, ?_, ?_, ?_, ?_, ?_, ?_, ?_, ?_, ?_, ?_, ?_, ?_, trivial⟩
          · refine Flow.step_val rfl fun a W hb hI hd => ?_
            have h9 : a.eval (.tmp 9) = u9 := hb.pre' 9 (by kernel_rfl)
            exact ⟨_, rfl, by rw [hGs]; exact h9⟩
          · refine Flow.step_val rfl fun a W hb hI hd => ?_
            have h8 : a.eval (.tmp 8) = .func (.func 53) #[] #[.pointer (some ⟨gl, 0, none⟩)] := hb.pre' 8 (by kernel_rfl)
            exact ⟨_, rfl, by rw [hGs]; exact h8⟩
          · refine Flow.step_val rfl fun a W hb hI hd => ?_
            have h11 : a.eval (.tmp 11) = .pointer (some ⟨gq, 0, none⟩) := hb.pre' 11 (by kernel_rfl)
            have g11 : a.tmps[11]?.getD undef = .pointer (some ⟨gq, 0, none⟩) := by have h := h11; simp only [Act.eval, Array.getD_eq_getD_getElem?] at h; exact h
            exact ⟨.pointer (some ⟨gq, 0, none⟩), by simp [go_sem, g11], by rw [hGs]; rfl⟩
          · refine Flow.step_val rfl fun a W hb hI hd => ?_
            have h34 : a.eval (.tmp 34) = .pointer (some ⟨gq, 0, none⟩) := by have h := hd _ (Array.mem_of_getElem? (i := 0) rfl) rfl; rw [hGs] at h; exact h
            exact ⟨_, run_load1 h34 (by have h := (HBq.out.ext hI).cell 0; exact h), by rw [hGs]; rfl⟩
          · refine Flow.step_val rfl fun a W hb hI hd => ?_
            have h11 : a.eval (.tmp 11) = .pointer (some ⟨gq, 0, none⟩) := hb.pre' 11 (by kernel_rfl)
            have g11 : a.tmps[11]?.getD undef = .pointer (some ⟨gq, 0, none⟩) := by have h := h11; simp only [Act.eval, Array.getD_eq_getD_getElem?] at h; exact h
            exact ⟨.pointer (some ⟨gq, 1, none⟩), by simp [go_sem, g11], by rw [hGs]; rfl⟩
          · refine Flow.step_val rfl fun a W hb hI hd => ?_
            have h36 : a.eval (.tmp 36) = .pointer (some ⟨gq, 1, none⟩) := by have h := hd _ (Array.mem_of_getElem? (i := 0) rfl) rfl; rw [hGs] at h; exact h
            exact ⟨_, run_load1 h36 (by have h := (HBq.out.ext hI).cell 1; exact h), by rw [hGs]; rfl⟩
          · refine Flow.step_call rfl fun a W hb hI hd => ?_
            have h33 : a.eval (.tmp 33) = .func (.func 53) #[] #[.pointer (some ⟨gl, 0, none⟩)] := by have h := hd _ (Array.mem_of_getElem? (i := 0) rfl) rfl; rw [hGs] at h; exact h
            have h35 : a.eval (.tmp 35) = .int .i64 x := by have h := hd _ (Array.mem_of_getElem? (i := 1) rfl) rfl; rw [hGs] at h; exact h
            have h37 : a.eval (.tmp 37) = .int .i64 y := by have h := hd _ (Array.mem_of_getElem? (i := 2) rfl) rfl; rw [hGs] at h; exact h
            refine ⟨53, #[a.eval (.tmp 35), a.eval (.tmp 37), .pointer (some ⟨gl, 0, none⟩)], run_enter_clo h33, ?_⟩
            rw [h35, h37]
            refine (HOn.out x y W hI).mono ?_
            rintro e w' ⟨rfl, hE⟩
            exact ⟨_, rfl, by rw [hGs]; rfl, hI.tr hE, hst.at hE⟩
          · refine Flow.step_val rfl fun a W hb hI hd => ?_
            have h8 : a.eval (.tmp 8) = .func (.func 53) #[] #[.pointer (some ⟨gl, 0, none⟩)] := hb.pre' 8 (by kernel_rfl)
            exact ⟨_, rfl, by rw [hGs]; exact h8⟩
          · refine Flow.step_val rfl fun a W hb hI hd => ?_
            have h11 : a.eval (.tmp 11) = .pointer (some ⟨gq, 0, none⟩) := hb.pre' 11 (by kernel_rfl)
            have g11 : a.tmps[11]?.getD undef = .pointer (some ⟨gq, 0, none⟩) := by have h := h11; simp only [Act.eval, Array.getD_eq_getD_getElem?] at h; exact h
            exact ⟨.pointer (some ⟨gq, 0, none⟩), by simp [go_sem, g11], by rw [hGs]; rfl⟩
          · refine Flow.step_val rfl fun a W hb hI hd => ?_
            have h40 : a.eval (.tmp 40) = .pointer (some ⟨gq, 0, none⟩) := by have h := hd _ (Array.mem_of_getElem? (i := 0) rfl) rfl; rw [hGs] at h; exact h
            exact ⟨_, run_load1 h40 (by have h := (HBq.out.ext hI).cell 0; exact h), by rw [hGs]; rfl⟩
          · refine Flow.step_val rfl fun a W hb hI hd => ?_
            have h11 : a.eval (.tmp 11) = .pointer (some ⟨gq, 0, none⟩) := hb.pre' 11 (by kernel_rfl)
            have g11 : a.tmps[11]?.getD undef = .pointer (some ⟨gq, 0, none⟩) := by have h := h11; simp only [Act.eval, Array.getD_eq_getD_getElem?] at h; exact h
            exact ⟨.pointer (some ⟨gq, 1, none⟩), by simp [go_sem, g11], by rw [hGs]; rfl⟩
          · refine Flow.step_val rfl fun a W hb hI hd => ?_
            have h42 : a.eval (.tmp 42) = .pointer (some ⟨gq, 1, none⟩) := by have h := hd _ (Array.mem_of_getElem? (i := 0) rfl) rfl; rw [hGs] at h; exact h
            exact ⟨_, run_load1 h42 (by have h := (HBq.out.ext hI).cell 1; exact h), by rw [hGs]; rfl⟩
          · refine Flow.step_val rfl fun a W hb hI hd => ?_
            have h11 : a.eval (.tmp 11) = .pointer (some ⟨gq, 0, none⟩) := hb.pre' 11 (by kernel_rfl)
            have g11 : a.tmps[11]?.getD undef = .pointer (some ⟨gq, 0, none⟩) := by have h := h11; simp only [Act.eval, Array.getD_eq_getD_getElem?] at h; exact h
            exact ⟨.pointer (some ⟨gq, 2, none⟩), by simp [go_sem, g11], by rw [hGs]; rfl⟩
          · refine Flow.step_val rfl fun a W hb hI hd => ?_
            have h44 : a.eval (.tmp 44) = .pointer (some ⟨gq, 2, none⟩) := by have h := hd _ (Array.mem_of_getElem? (i := 0) rfl) rfl; rw [hGs] at h; exact h
            exact ⟨_, run_load1 h44 (by have h := (HBq.out.ext hI).cell 2; exact h), by rw [hGs]; rfl⟩
          · refine Flow.step_val rfl fun a W hb hI hd => ?_
            have h43 : a.eval (.tmp 43) = .int .i64 y := by have h := hd _ (Array.mem_of_getElem? (i := 0) rfl) rfl; rw [hGs] at h; exact h
            have h45 : a.eval (.tmp 45) = .int .i64 z := by have h := hd _ (Array.mem_of_getElem? (i := 1) rfl) rfl; rw [hGs] at h; exact h
            have g43 : a.tmps[43]?.getD undef = .int .i64 y := by have h := h43; simp only [Act.eval, Array.getD_eq_getD_getElem?] at h; exact h
            have g45 : a.tmps[45]?.getD undef = .int .i64 z := by have h := h45; simp only [Act.eval, Array.getD_eq_getD_getElem?] at h; exact h
            exact ⟨.int .i64 (y + z), by simp [go_sem, g43, g45, s2], by rw [hGs]; rfl⟩
          · refine Flow.step_call rfl fun a W hb hI hd => ?_
            have h39 : a.eval (.tmp 39) = .func (.func 53) #[] #[.pointer (some ⟨gl, 0, none⟩)] := by have h := hd _ (Array.mem_of_getElem? (i := 0) rfl) rfl; rw [hGs] at h; exact h
            have h41 : a.eval (.tmp 41) = .int .i64 x := by have h := hd _ (Array.mem_of_getElem? (i := 1) rfl) rfl; rw [hGs] at h; exact h
            have h46 : a.eval (.tmp 46) = .int .i64 (y + z) := by have h := hd _ (Array.mem_of_getElem? (i := 2) rfl) rfl; rw [hGs] at h; exact h
            refine ⟨53, #[a.eval (.tmp 41), a.eval (.tmp 46), .pointer (some ⟨gl, 0, none⟩)], run_enter_clo h39, ?_⟩
            rw [h41, h46]
            refine (HOn.out x (y + z) W hI).mono ?_
            rintro e w' ⟨rfl, hE⟩
            exact ⟨_, rfl, by rw [hGs]; rfl, hI.tr hE, hst.at hE⟩
          · refine Flow.step_val rfl fun a W hb hI hd => ?_
            have h38 : a.eval (.tmp 38) = .int .i64 (onIdx J x y) := by have h := hd _ (Array.mem_of_getElem? (i := 0) rfl) rfl; rw [hGs] at h; exact h
            have h47 : a.eval (.tmp 47) = .int .i64 (onIdx J x (y + z)) := by have h := hd _ (Array.mem_of_getElem? (i := 1) rfl) rfl; rw [hGs] at h; exact h
            exact ⟨_, run_build40 h38 h47, by rw [hGs]; rfl⟩
          · refine Flow.step_to rfl fun a W hb hI hd => ?_
            have h48 : a.eval (.tmp 48) = .agg #[.int .i64 (onIdx J x y), .int .i64 (onIdx J x (y + z))] := by have h := hd _ (Array.mem_of_getElem? (i := 0) rfl) rfl; rw [hGs] at h; exact h
            exact ⟨_, _, .inl (run_buildSlice33 h48), by rw [hGs]; exact ⟨W.heap.size, rfl, Blk.new _ _ _⟩, hI.tr ((Below.refl _ _).alloc (Nat.le_refl _) _), hst.at ((Below.refl _ _).alloc (Nat.le_refl _) _)⟩
        case flowend =>
          rw [hGs]
          refine fun W hI v0 h0 v1 h1 v2 h2 v3 h3 v4 h4 v5 h5 v6 h6 v7 h7 v8 h8 v9 h9 v10 h10 v11 h11 v12 h12 v13 h13 v14 h14 v15 h15 v16 h16 v17 h17 => ?_
          obtain rfl : u9 = v0 := Eq.symm h0; clear h0
          obtain rfl : .func (.func 53) #[] #[.pointer (some ⟨gl, 0, none⟩)] = v1 := Eq.symm h1; clear h1
          obtain rfl : .pointer (some ⟨gq, 0, none⟩) = v2 := Eq.symm h2; clear h2
          obtain rfl : .int .i64 x = v3 := Eq.symm h3; clear h3
          obtain rfl : .pointer (some ⟨gq, 1, none⟩) = v4 := Eq.symm h4; clear h4
          obtain rfl : .int .i64 y = v5 := Eq.symm h5; clear h5
          obtain rfl : .int .i64 (onIdx J x y) = v6 := Eq.symm h6; clear h6
          obtain rfl : .func (.func 53) #[] #[.pointer (some ⟨gl, 0, none⟩)] = v7 := Eq.symm h7; clear h7
          obtain rfl : .pointer (some ⟨gq, 0, none⟩) = v8 := Eq.symm h8; clear h8
          obtain rfl : .int .i64 x = v9 := Eq.symm h9; clear h9
          obtain rfl : .pointer (some ⟨gq, 1, none⟩) = v10 := Eq.symm h10; clear h10
          obtain rfl : .int .i64 y = v11 := Eq.symm h11; clear h11
          obtain rfl : .pointer (some ⟨gq, 2, none⟩) = v12 := Eq.symm h12; clear h12
          obtain rfl : .int .i64 z = v13 := Eq.symm h13; clear h13
          obtain rfl : .int .i64 (y + z) = v14 := Eq.symm h14; clear h14
          obtain rfl : .int .i64 (onIdx J x (y + z)) = v15 := Eq.symm h15; clear h15
          obtain rfl : .agg #[.int .i64 (onIdx J x y), .int .i64 (onIdx J x (y + z))] = v16 := Eq.symm h16; clear h16
          replace h17 : (fun v W => ∃ g, v = .slice (some ⟨g, 0, none⟩) 1 1 ∧ Blk W g 40 (prCells (onIdx J x y, onIdx J x (y + z))).toArray) v17 W := h17
          clear hst hGs
          show wpList _ _ _ _ _ _
          simp only [List.drop_succ_cons, List.drop_zero, Act.put, List.setIfInBounds_toArray, List.set_cons_zero, List.set_cons_succ]

          obtain ⟨gb, rfl, hBb⟩ := h17
          obtain ⟨v', W', hrun, hown', hK'⟩ := own_append (cp := 1) (m := 1) Tryz.underlying33 info40 rfl (by omega) (own_ext HOwnz.out hI) hBb rfl (by intro u hu; simp [prCells] at hu; rcases hu with rfl | rfl <;> rfl) (by have := HLl.out; omega) (by have := HLl.out; omega) (HEz.out.tr hI).size 33
          have htk : (pairsOf J (l'.take (k + 1))).flatMap prCells = (pairsOf J (l'.take k)).flatMap prCells ++ prCells (onIdx J x y, onIdx J x (y + z)) := by
            rw [List.take_succ_eq_append_getElem hlt, hlk, pairsOf, List.map_append, List.flatMap_append]
            simp [pairsOf]
          have HRun := hide hrun
          have HOwn2 := hide (show W'.ownsRow w3.heap.size 40 2 v' (k + 1) ((pairsOf J (l'.take (k + 1))).flatMap prCells) by rw [htk]; exact hown')
          have HE2 := hide (hK'.ext_of (HEz.out.tr hI) (fun b hb => (HOwnz.out.lt b hb).1))
          clear hrun hown' hK' htk hBb hlk
          go_wp2_with (at_builtin; refine wpList_append_go rfl (.tmp 32) (.tmp 49) 33 33 rfl rfl rfl HRun.out ?_)
          go_roundw
          case rel => exact ⟨k + 1, by omega, by go_num, HOwn2.out, HE2.out⟩
          case measure => simp [intOf]; omega
      · obtain rfl : k = l'.length := by omega
        have hown := HOwn.out
        rw [List.take_length] at hown
        have hpl : (pairsOf J l').length = l'.length := by simp [pairsOf]
        have hI : Prs w4 u9 (pairsOf J l') := Prs.of_own (base := w3.heap.size) (by rw [hpl]; exact hown) (by rw [hpl]; have := HLl.out; omega)
        have HBl4 := HBl.out.ext HE.out
        have cl := HBl4.cell 0
        simp at cl
        have HRes : Hid (NetRes l w (.returned (.tuple #[.int .i64 (J.length : Int), u9, .int .i64 0])) w4) := ⟨HE3.out.tr HE.out, .inr ⟨H00.out, u9, l', s, by rw [HJe.out], by rw [HJe.out]; exact hI, HPerm.out, HSort.out, HPs.out, HSs.out⟩⟩
        clear hown hI HBl4
        go_wp2
        exact bodyPost_ret (v := .tuple #[.int .i64 (J.length : Int), u9, .int .i64 0]) (by simp [results, go_sem]) rfl HRes.out

end Go.Proofs.YtncabodphjkkfaaGreat
