/- The currents of a network. Conditions: the network is valid; the pivots are not 0, the fractions fit into a machine. -/
import Derived.Test.YtncabodphjkkfaaGreatC2
import Derived.Test.YtncabodphjkkfaaGreatN18
import Derived.Test.YtncabodphjkkfaaGreatN11
import Derived.Test.YtncabodphjkkfaaGreatFlow2
namespace Go.Proofs.YtncabodphjkkfaaGreat
open Go.RowKit Go.Limbs Go.Shelf

/-- o is a row of the call's own, of the fractions qs. -/
def OwnRats (W : World) (base : Nat) (o : Value) (qs : List Rat) : Prop :=
  ∃ rs : List R4, W.ownsRow base 113 4 o qs.length (rs.flatMap r4cells) ∧ rs.length = qs.length ∧ ∀ j, j < qs.length → IsRat W (R4.val (rs.getD j r4z)) (qs.getD j 0)
def OwnB (o : Value) (b : Nat) : Prop := o.ownBlock = some b
theorem OwnRats.ty {W : World} {base : Nat} {o : Value} {qs : List Rat} (h : OwnRats W base o qs) : ∀ b, OwnB o b → TyBlk W b 113 := by
  obtain ⟨rs, h1, _⟩ := h; exact own_ty h1
theorem OwnRats.ge {W : World} {base : Nat} {o : Value} {qs : List Rat} (h : OwnRats W base o qs) : ∀ b, OwnB o b → base ≤ b := by
  obtain ⟨rs, h1, _⟩ := h; exact fun b hb => (h1.lt b hb).1
theorem OwnRats.nil (W : World) (base : Nat) : OwnRats W base (.slice none 0 0) [] := ⟨[], World.ownsRow_nil _ _ _ _, rfl, fun j hj => by simp at hj⟩
theorem OwnRats.keep {S : Nat → Prop} {W W' : World} {base : Nat} {o : Value} {qs : List Rat} (h : OwnRats W base o qs) (k : Keep S W W') (hn : ∀ b, OwnB o b → ¬ S b) (hs : NoDigits W S) : OwnRats W' base o qs := by
  have hty := h.ty
  obtain ⟨rs, h1, h2, h3⟩ := h
  refine ⟨rs, ⟨h1.1, ?_⟩, h2, fun j hj => (h3 j hj).keep k hs⟩
  rcases h1.2 with ⟨hv, hn'⟩ | ⟨g, cap, cur, hv, hb, hg, hrest⟩
  · exact .inl ⟨hv, hn'⟩
  · have hob : OwnB o g := by rw [OwnB, hv]; rfl
    exact .inr ⟨g, cap, cur, hv, hb, (k.block g (hty g hob).lt (hn g hob)).trans hg, hrest⟩
theorem OwnRats.ext {W W' : World} {base : Nat} {o : Value} {qs : List Rat} (h : OwnRats W base o qs) (E : Ext W W') : OwnRats W' base o qs := h.keep (S := fun _ => False) (Keep.ext E) (fun _ _ => id) (noDigits_none W)
theorem OwnRats.append {W : World} {base : Nat} {o : Value} {qs : List Rat} (h : OwnRats W base o qs) {b off cp : Nat} {r : R4} {q : Rat} (hr : Cell4 W b off r) (hbW : b < W.heap.size) (hq : IsRat W r.val q) (hl : qs.length ≤ 1048576) (hbase : base ≤ W.heap.size) (ty : TypeId) :
    ∃ v' W', (Builtin.append_ #[105, 105] ty #[o, .slice (some ⟨b, off, none⟩) 1 cp]).run Tryz.prog W = .ok v' W' ∧ OwnRats W' base v' (qs ++ [q]) ∧ Keep (OwnB o) W W' := by
  have hty := h.ty
  obtain ⟨rs, h1, h2, h3⟩ := h
  obtain ⟨i0, hi, hz0, hz1, hz2⟩ := info_parts info113
  obtain ⟨v', W', hrun, hown, hg, _⟩ := App.run_append_any (P := Tryz.prog) W base 105 ty 113 i0 _ 4 64 Tryz.underlying105 hi hz0 hz1 hz2 rfl (by omega) o qs.length (rs.flatMap r4cells) h1
    W.heap.size (some ⟨b, off, none⟩) 1 cp (r4cells r) ⟨rfl, fun _ => ⟨_, rfl, hbW, fun j u hu => by
      have hj : j < 4 := (List.getElem?_eq_some_iff.1 hu).1
      rw [addr_add]
      have : j = 0 ∨ j = 1 ∨ j = 2 ∨ j = 3 := by omega
      rcases this with rfl | rfl | rfl | rfl
      · rw [← show some r.1 = some u from hu]; exact hr.1
      · rw [← show some r.2.1 = some u from hu]; exact hr.2.1
      · rw [← show some r.2.2.1 = some u from hu]; exact hr.2.2.1
      · rw [← show some r.2.2.2 = some u from hu]; exact hr.2.2.2⟩⟩ hq.ones (by unfold maxLen; omega) (by omega) hbase
  have hK : Keep (OwnB o) W W' := ⟨hg.os, hg.tape, hg.output, hg.size, fun i hi hn => hg.block i hi (fun e => hn e.symm)⟩
  have hN : NoDigits W (OwnB o) := fun b hb => ⟨113, hty b hb, by decide⟩
  refine ⟨v', W', hrun, ⟨rs ++ [r], ?_, by simp [h2], fun j hj => ?_⟩, hK⟩
  · rw [List.flatMap_append, List.length_append]
    simpa using hown
  · rw [List.length_append] at hj
    by_cases e : j < qs.length
    · rw [show (rs ++ [r]).getD j r4z = rs.getD j r4z by simp [List.getD, List.getElem?_append_left (show j < rs.length by omega)], show (qs ++ [q]).getD j 0 = qs.getD j 0 by simp [List.getD, List.getElem?_append_left e]]
      exact (h3 j e).keep hK hN
    · obtain rfl : j = qs.length := by simp at hj; omega
      rw [show (rs ++ [r]).getD qs.length r4z = r by rw [← h2]; simp [List.getD], show (qs ++ [q]).getD qs.length 0 = q by simp [List.getD]]
      exact hq.keep hK hN
theorem OwnRats.row {W : World} {base : Nat} {o : Value} {qs : List Rat} (h : OwnRats W base o qs) (hp : 0 < qs.length) : ∃ g c, o = .slice (some ⟨g, 0, none⟩) qs.length c ∧ base ≤ g ∧ RRow W g c qs := by
  obtain ⟨rs, h1, h2, h3⟩ := h
  exact RRow.of_own h1 h2 h3 hp

theorem run_index105o {W : World} {g off n c k : Nat} {ρ : Operand → Value} {x y : Operand} {dst : Option Tmp} {ty : TypeId} {pos : String} {after : Array Edge} {guard : Option (Nat × Bool)}
    (hx : ρ x = .slice (some ⟨g, off, none⟩) n c) (hy : ρ y = .int .i64 (k : Int)) (hk : k < n) : (execOp ρ { dst, op := .indexAddr 105 x y, type := ty, pos, after, guard }).run Tryz.prog W = .ok (.value (.pointer (some ⟨g, off + k * 4, none⟩))) W := by
  simp [go_sem, execOp, hx, hy, hk]
theorem run_extract0 {P : Program} {W : World} {a b : Value} {ρ : Operand → Value} {x : Operand} {dst : Option Tmp} {ty : TypeId} {pos : String} {after : Array Edge} {guard : Option (Nat × Bool)}
    (hx : ρ x = .tuple #[a, b]) : (execOp ρ { dst, op := .extract x 0, type := ty, pos, after, guard }).run P W = .ok (.value a) W := by
  simp [go_sem, execOp, hx]
theorem run_extract1 {P : Program} {W : World} {a b : Value} {ρ : Operand → Value} {x : Operand} {dst : Option Tmp} {ty : TypeId} {pos : String} {after : Array Edge} {guard : Option (Nat × Bool)}
    (hx : ρ x = .tuple #[a, b]) : (execOp ρ { dst, op := .extract x 1, type := ty, pos, after, guard }).run P W = .ok (.value b) W := by
  simp [go_sem, execOp, hx]

theorem run_store110 {W : World} {g : Nat} {a b d : Value} {c : Bool} {ρ : Operand → Value} {x y : Operand} {dst : Option Tmp} {ty : TypeId} {pos : String} {after : Array Edge} {guard : Option (Nat × Bool)}
    (hx : ρ x = .pointer (some ⟨g, 0, none⟩)) (hy : ρ y = .agg #[.bool c, b]) (hB : Blk W g 110 #[a, d]) (hb : b.oneCell' = true) :
    (execOp ρ { dst, op := .store 110 x y, type := ty, pos, after, guard }).run Tryz.prog W = .ok .skip ((W.setCell ⟨g, 0, none⟩ (.bool c)).setCell ⟨g, 1, none⟩ b) := by
  have e0 := hB.cell 0
  have e1 := hB.cell 1
  have f0 := hB.frozen 0
  have f1 := hB.frozen 1
  have st := st_any hb
  simp at e0 e1
  simp [go_sem, execOp, hx, hy, e0, e1, f0, f1, st]
/-- A block of the region's own, that is new, or that holds the integer q. -/
def QZ (wz : World) (g : Nat) (W : World) : Prop := wz.heap.size ≤ g ∧ Blk W g 110 #[.bool false, .slice none 0 0]
def QB (wz : World) (q : Int) (g : Nat) (W : World) : Prop := wz.heap.size ≤ g ∧ ∃ s, Blk W g 110 #[.bool false, s] ∧ IsInt W (.agg #[.bool false, s]) q
theorem twoE (wz : World) (q : Int) : Flow.TwoE Ext (QZ wz) (QB wz q) where
  size _ _ E := E.size
  zero _ _ _ E h := ⟨h.1, h.2.ext E⟩
  full _ _ _ E h := by obtain ⟨h1, s, h2, h3⟩ := h; exact ⟨h1, s, h2.ext E, h3.ext E⟩

/-- The differences of potentials, what they are multiplied by, and then divided by. -/
def dif (v : List Rat) (p : Pr) : Rat := v.getD p.1.toNat 0 - v.getD p.2.toNat 0
def undTo (xs : List Rat) : Nat → Nat
  | 0 => 1
  | k + 1 => undTo xs k * ((xs.getD k 0).den / Nat.gcd (undTo xs k) (xs.getD k 0).den)
def ovrTo (ys : List Rat) : Nat → Nat
  | 0 => 0
  | k + 1 => Nat.gcd (ovrTo ys k) (ys.getD k 0).num.natAbs
def difs (v : List Rat) (ps : List Pr) : List Rat := ps.map (dif v)
def scaled (xs : List Rat) : List Rat := xs.map (· * ((undTo xs xs.length : Int) : Rat))
def lowest (ys : List Rat) : List Rat := ys.map (· / ((ovrTo ys ys.length : Int) : Rat))
def curs (v : List Rat) (ps : List Pr) : List Rat := lowest (scaled (difs v ps))

/-- A row of which the first i places are turned. -/
def stepMap (f : Rat → Rat) (xs : List Rat) (i : Nat) : List Rat := xs.mapIdx fun j x => if j < i then f x else x
theorem stepMap_zero (f : Rat → Rat) (xs : List Rat) : stepMap f xs 0 = xs := by
  apply List.ext_getElem?
  intro k
  rw [stepMap, List.getElem?_mapIdx]
  cases xs[k]? with
  | none => rfl
  | some x => simp only [Option.map_some]; rw [if_neg (by omega)]
theorem stepMap_length (f : Rat → Rat) (xs : List Rat) (i : Nat) : (stepMap f xs i).length = xs.length := by simp [stepMap]
theorem stepMap_full (f : Rat → Rat) (xs : List Rat) : stepMap f xs xs.length = xs.map f := by
  apply List.ext_getElem?
  intro k
  rw [stepMap, List.getElem?_mapIdx, List.getElem?_map]
  by_cases hk : k < xs.length
  · rw [List.getElem?_eq_getElem hk, Option.map_some, Option.map_some, if_pos hk]
  · rw [List.getElem?_eq_none (by omega)]; rfl
theorem stepMap_get (f : Rat → Rat) (xs : List Rat) (i : Nat) (hi : i < xs.length) : (stepMap f xs i).getD i 0 = xs.getD i 0 := by
  simp [stepMap, List.getD, hi]
theorem stepMap_succ (f : Rat → Rat) (xs : List Rat) (i : Nat) (hi : i < xs.length) : (stepMap f xs i).set i (f (xs.getD i 0)) = stepMap f xs (i + 1) := by
  apply List.ext_getElem?
  intro k
  rw [List.getElem?_set, stepMap, stepMap, List.getElem?_mapIdx, List.getElem?_mapIdx, List.length_mapIdx]
  by_cases e : i = k
  · subst e
    rw [if_pos rfl, if_pos hi, List.getElem?_eq_getElem hi, Option.map_some, if_pos (by omega)]
    simp [List.getD, hi]
  · rw [if_neg e]
    cases xs[k]? with
    | none => rfl
    | some x =>
      simp only [Option.map_some]
      by_cases h : k < i
      · rw [if_pos h, if_pos (by omega)]
      · rw [if_neg h, if_neg (by omega)]
theorem RatLen.nat {U L : Nat} (h : (limbs U).length ≤ L) (hL : 1 ≤ L) : RatLen ((U : Int) : Rat) L := by
  have h2 : (limbs 1).length ≤ 1 := limbs_length_le (by omega)
  exact ⟨by rw [Rat.num_intCast, Int.natAbs_natCast]; exact h, by rw [Rat.den_intCast]; omega⟩

structure CurOk (v : List Rat) (ps : List Pr) (L : Nat) : Prop where
  pot : ∀ i, i < v.length → RatLen (v.getD i 0) L
  dx : ∀ j, j < ps.length → RatLen ((difs v ps).getD j 0) L
  und : ∀ k, k ≤ ps.length → (limbs (undTo (difs v ps) k)).length ≤ L
  sc : ∀ j, j < ps.length → RatLen ((scaled (difs v ps)).getD j 0) L
  ovr : ∀ k, k ≤ ps.length → (limbs (ovrTo (scaled (difs v ps)) k)).length ≤ L
  ne : ovrTo (scaled (difs v ps)) ps.length ≠ 0
  fin : ∀ j, j < ps.length → RatLen ((curs v ps).getD j 0) L

theorem undTo_pos (xs : List Rat) (k : Nat) : 0 < undTo xs k := by
  induction k with
  | zero => exact Nat.one_pos
  | succ k ih =>
    refine Nat.mul_pos ih (Nat.div_pos (Nat.le_of_dvd (xs.getD k 0).den_pos (Nat.gcd_dvd_right _ _)) (Nat.gcd_pos_of_pos_left _ ih))
theorem map_getD {α β : Type} (f : α → β) (l : List α) (j : Nat) (d : α) (e : β) (h : j < l.length) : (l.map f).getD j e = f (l.getD j d) := by simp [List.getD, h]

set_option maxRecDepth 100000 in
set_option maxHeartbeats 8000000 in
theorem currents_ok (v : Value) (n : Nat) (ps : List Pr) (w : World) (hv : Prs w v ps) (h24 : ps.length ≤ 24) (hn : 2 ≤ n) (hn2 : n ≤ 25) (hps : ∀ p ∈ ps, ValidW n p) (hcon : ∀ i : Nat, i < n → Reach ps (i : Int)) (hp0 : 0 < ps.length)
    (ht : TriOk (augPart (lap (n - 1) ps) (rhs (n - 1)) (n - 1)) (n - 1) (n - 1 + 1) 4398046511104) (hk : BackOk (elimTo (augPart (lap (n - 1) ps) (rhs (n - 1)) (n - 1)) (n - 1)) (n - 1) 4398046511104) (hc : CurOk (hts n ps) ps 4398046511104) :
    Calls Tryz.prog 24 #[.int .i64 (n : Int), v] w fun e w' => ∃ u, e = .returned (.tuple #[u, .int .i64 (numsErr (curs (hts n ps) ps))]) ∧ Strs w' u (numsOut (curs (hts n ps) ps)) ∧ Ext w w' := by
  have HV := hide hv
  have HHt := hide (heights_ok v n ps w hv h24 hn hn2 hps hcon ht hk)
  obtain ⟨A, cap, rfl, hcap, hm, hrd⟩ := hv
  obtain ⟨vs, hvs⟩ : ∃ vs, hts n ps = vs := ⟨_, rfl⟩
  have hvl : vs.length = n := by rw [← hvs, hts, List.length_append, solveR, backX_length]; simp; omega
  rw [hvs] at HHt hc ⊢
  have HC := hide hc; have HPs := hide hps; have HRD := hide hrd; have HVl := hide hvl
  clear ht hk hps hcon hc hrd hvs hvl
  go_enter Tryz.func24, Tryz.ntmps24
  go_wp2_with fail
  refine HHt.out.mono ?_
  rintro e w1 ⟨u, rfl, hr, E1⟩
  obtain ⟨Av, cv, rs, rfl, hcv, hvm, hrl, hrdv, hrq⟩ := hr
  rw [HVl.out] at hcv hvm ⊢
  have HRv := hide hrdv; have HRl := hide hrl; have HRq := hide hrq; have HE1 := hide E1; have HE0 := hide E1
  clear hrdv hrl hrq E1 HHt
  go_wp2_with fail
  refine (of_any 1 w1 (by decide) (by decide)).mono ?_
  rintro e w2 ⟨u1, rfl, hu1, E2⟩
  obtain ⟨su, rfl, hsu⟩ := hu1
  have d1 : decide ((1 : Int) < 0) = false := rfl
  rw [d1]
  have ou := st_any hsu.one
  have HU1 := hide (show IsInt w2 (.agg #[.bool false, su]) ((1 : Nat) : Int) from ⟨su, rfl, hsu⟩)
  clear d1 hsu
  go_wp2_with fail
  refine (of_any 0 w2 (by decide) (by decide)).mono ?_
  rintro e w3 ⟨u2, rfl, hu2, E3⟩
  obtain ⟨so, rfl, hso⟩ := hu2
  have d0 : decide ((0 : Int) < 0) = false := rfl
  rw [d0]
  have oo := st_any hso.one
  have HO1 := hide (show IsInt w3 (.agg #[.bool false, so]) ((0 : Nat) : Int) from ⟨so, rfl, hso⟩)
  replace HU1 := hide (HU1.out.ext E3)
  replace HE1 := hide ((HE1.out.tr E2).tr E3)
  clear d0 hso
  go_wp2_with fail
  obtain ⟨gU, hgU⟩ : ∃ g, w3.heap.size = g := ⟨_, rfl⟩
  obtain ⟨gO, hgO⟩ : ∃ g, w3.heap.size + 1 = g := ⟨_, rfl⟩
  have hEa : Ext w3 ((w3.alloc (.cells #[.bool false, su] 110)).alloc (.cells #[.bool false, so] 110)) := ((Below.refl _ _).alloc (Nat.le_refl _) _).alloc (by simp) _
  have hB1 : Blk ((w3.alloc (.cells #[.bool false, su] 110)).alloc (.cells #[.bool false, so] 110)) gU 110 #[.bool false, su] := (Blk.new' _ _ _ _ hgU.symm).alloc _
  have hB2 : Blk ((w3.alloc (.cells #[.bool false, su] 110)).alloc (.cells #[.bool false, so] 110)) gO 110 #[.bool false, so] := Blk.new' _ _ _ _ (by rw [← hgO]; simp)
  have HUO : Hid (gU ≠ gO ∧ w1.heap.size ≤ gU ∧ w1.heap.size ≤ gO) := by
    have := (E2.tr E3).size
    exact ⟨by omega, by omega, by omega⟩
  rw [hgO, hgU]
  replace HU1 := hide (HU1.out.ext hEa)
  replace HO1 := hide (HO1.out.ext hEa)
  have HE4 := hide ((E2.tr E3).tr hEa)
  generalize (w3.alloc (.cells #[.bool false, su] 110)).alloc (.cells #[.bool false, so] 110) = w4 at hEa hB1 hB2 HU1 HO1 HE4 ⊢
  have HB1 := hide hB1; have HB2 := hide hB2
  clear E2 E3 hEa hB1 hB2 hgU hgO ou oo
  obtain ⟨xs, hxs⟩ : ∃ xs, difs vs ps = xs := ⟨_, rfl⟩
  have HXs := hide hxs
  have HXl := hide (show xs.length = ps.length by rw [← hxs, difs, List.length_map])
  clear hxs
  go_loopw [8, 33] (fun o s wr => ∃ (k : Nat) (su : Value), k ≤ ps.length ∧ s = .int .i64 (k : Int) ∧ OwnRats wr w1.heap.size o (xs.take k) ∧ Blk wr gU 110 #[.bool false, su] ∧ IsInt wr (.agg #[.bool false, su]) ((undTo xs k : Nat) : Int) ∧
      Blk wr gO 110 #[.bool false, so] ∧ IsInt wr (.agg #[.bool false, so]) ((0 : Nat) : Int) ∧ Ext w1 wr) (fun _ s _ => ps.length - (intOf s).toNat)
  case atStart => exact ⟨0, su, Nat.zero_le _, rfl, OwnRats.nil _ _, HB1.out, HU1.out, HB2.out, HO1.out, HE4.out⟩
  case round =>
    obtain ⟨k, su, hk, rfl, hown, hbu, hu, hbo, ho, hE⟩ := hrel
    have HOwn := hide hown; have HBU := hide hbu; have HU := hide hu; have HBO := hide hbo; have HO := hide ho; have HE := hide hE
    clear hown hbu hu hbo ho hE
    obtain ⟨w5, hw5⟩ : ∃ w0, w0 = wr := ⟨_, rfl⟩
    subst hw5
    by_cases hlt : k < ps.length
    · obtain ⟨b, off, rfl, hbt, hc⟩ := Prs.at HRD.out hlt
      obtain ⟨a0, a1⟩ := hc k hlt
      have hpm : ps.getD k (0, 0) ∈ ps := by rw [List.getD, List.getElem?_eq_getElem hlt]; exact List.getElem_mem hlt
      obtain ⟨⟨x, y⟩, hp⟩ : ∃ p, ps.getD k (0, 0) = p := ⟨_, rfl⟩
      rw [hp] at a0 a1 hpm
      obtain ⟨hx0, hxn, hy0, hyn, hne⟩ := HPs.out _ hpm
      obtain ⟨x, rfl⟩ : ∃ m : Nat, x = m := ⟨x.toNat, by simp only [] at hx0; omega⟩
      obtain ⟨y, rfl⟩ : ∃ m : Nat, y = m := ⟨y.toNat, by simp only [] at hy0; omega⟩
      simp only [] at hx0 hxn hy0 hyn a0 a1
      have hE05 : Ext w w5 := HE0.out.tr HE.out
      have b0 : w5.cell? ⟨b, off + k * 2, none⟩ = some (.int .i64 (x : Int)) := (hE05.cell (p := ⟨b, off + k * 2, none⟩) hbt.lt).trans a0
      have b1 : w5.cell? ⟨b, off + k * 2 + 1, none⟩ = some (.int .i64 (y : Int)) := (hE05.cell (p := ⟨b, off + k * 2 + 1, none⟩) hbt.lt).trans a1
      have hxL : x < n := by omega
      have hyL : y < n := by omega
      obtain ⟨bv, ov, rfl, htv, hcv2⟩ := Rats.at HRv.out HRl.out HRq.out (k := x) (by rw [HVl.out]; exact hxL)
      obtain ⟨rx, hrx1, hrx2⟩ := hcv2 x (by rw [HVl.out]; exact hxL)
      obtain ⟨ry, hry1, hry2⟩ := hcv2 y (by rw [HVl.out]; exact hyL)
      obtain ⟨vx, hvx⟩ : ∃ q, vs.getD x 0 = q := ⟨_, rfl⟩
      obtain ⟨vy, hvy⟩ : ∃ q, vs.getD y 0 = q := ⟨_, rfl⟩
      have HLx := hide (show RatLen vx 4398046511104 by rw [← hvx]; exact HC.out.pot x (by rw [HVl.out]; exact hxL))
      have HLy := hide (show RatLen vy 4398046511104 by rw [← hvy]; exact HC.out.pot y (by rw [HVl.out]; exact hyL))
      rw [hvx] at hrx2
      rw [hvy] at hry2
      have hxk : xs.getD k 0 = vx - vy := by
        rw [← HXs.out, difs, map_getD _ _ _ (0, 0) _ hlt, hp]
        show vs.getD (x : Int).toNat 0 - vs.getD (y : Int).toNat 0 = _
        rw [Int.toNat_natCast, Int.toNat_natCast, hvx, hvy]
      have HXk := hide hxk
      have HLxk := hide (show RatLen (vx - vy) 4398046511104 by rw [← hxk, ← HXs.out]; exact HC.out.dx k hlt)
      clear hc a0 a1 hp hpm hx0 hxn hy0 hyn hne hvx hvy hxk hcv2 hE05
      go_wp2_with fail
      have hEb : Ext w5 (w5.alloc (.cells #[.int .i64 (x : Int), .int .i64 (y : Int)] 40)) := (Below.refl _ _).alloc (Nat.le_refl _) _
      obtain ⟨gp, hgp⟩ : ∃ g, w5.heap.size = g := ⟨_, rfl⟩
      have HBp := hide (show Blk (w5.alloc (.cells #[.int .i64 (x : Int), .int .i64 (y : Int)] 40)) gp 40 #[.int .i64 (x : Int), .int .i64 (y : Int)] from Blk.new' _ _ _ _ hgp.symm)
      have HE5 := hide hEb
      rw [hgp]
      generalize w5.alloc (.cells #[.int .i64 (x : Int), .int .i64 (y : Int)] 40) = wz at HBp HE5 ⊢
      have hE1z := HE.out.tr HE5.out
      have hbvl := htv.lt
      have HCx : Hid (∀ W, Ext wz W → Cell4 W bv (ov + x * 4) rx) := fun W E => hrx1.ext hbvl (hE1z.tr E)
      have HCy : Hid (∀ W, Ext wz W → Cell4 W bv (ov + y * 4) ry) := fun W E => hry1.ext hbvl (hE1z.tr E)
      have HVx : Hid (∀ W, Ext wz W → IsRat W rx.val vx) := fun W E => hrx2.ext (hE1z.tr E)
      have HVy : Hid (∀ W, Ext wz W → IsRat W ry.val vy) := fun W E => hry2.ext (hE1z.tr E)
      clear hEb hgp hE1z hbvl hrx1 hrx2 hry1 hry2 htv b0 b1
      obtain ⟨Gs, hGs⟩ : ∃ Gs : List (Value → World → Prop), Gs = [(fun v _ => v = .slice (some ⟨bv, ov, none⟩) n cv), (fun v _ => v = .pointer (some ⟨gp, 0, none⟩)), (fun v _ => v = .int .i64 (x : Int)), (fun v _ => v = .pointer (some ⟨bv, ov + x * 4, none⟩)), (fun v _ => v = R4.val rx), (fun v _ => v = .slice (some ⟨bv, ov, none⟩) n cv), (fun v _ => v = .pointer (some ⟨gp, 1, none⟩)), (fun v _ => v = .int .i64 (y : Int)), (fun v _ => v = .pointer (some ⟨bv, ov + y * 4, none⟩)), (fun v _ => v = R4.val ry), (fun v W => IsRat W v (vx - vy)), (fun v W => ∃ g, v = .pointer (some ⟨g, 0, none⟩) ∧ wz.heap.size ≤ g ∧ Blk W g 113 (r4cells z4).toArray)] := ⟨_, rfl⟩
      have hst : Flow.Stay Ext Gs := by rw [hGs]; exact (Flow.Stay.cons (fun _ _ _ _ h => h) (Flow.Stay.cons (fun _ _ _ _ h => h) (Flow.Stay.cons (fun _ _ _ _ h => h) (Flow.Stay.cons (fun _ _ _ _ h => h) (Flow.Stay.cons (fun _ _ _ _ h => h) (Flow.Stay.cons (fun _ _ _ _ h => h) (Flow.Stay.cons (fun _ _ _ _ h => h) (Flow.Stay.cons (fun _ _ _ _ h => h) (Flow.Stay.cons (fun _ _ _ _ h => h) (Flow.Stay.cons (fun _ _ _ _ h => h) (Flow.Stay.cons (fun _ _ E _ h => IsRat.ext h E) (Flow.Stay.cons (fun _ _ E _ h => by obtain ⟨g, h1, h2, h3⟩ := h; exact ⟨g, h1, h2, h3.ext E⟩) Flow.Stay.nil))))))))))))
      refine Flow.wp_region_flow 12 (by kernel_rfl) (fun W => Ext wz W) Gs (by kernel_rfl) (Ext.rfl' wz).drew ?flowsteps ?flowend
      case flowsteps =>
        refine ⟨?_, ?_, ?_, ?_, ?_, ?_, ?_, ?_, ?_, ?_, ?_, ?_, trivial⟩
        · refine Flow.step_val rfl fun a W hb hI hd => ?_
          have h6 : a.eval (.tmp 6) = .slice (some ⟨bv, ov, none⟩) n cv := hb.pre' 6 (by kernel_rfl)
          exact ⟨_, rfl, by rw [hGs]; exact h6⟩
        · refine Flow.step_val rfl fun a W hb hI hd => ?_
          have h12 : a.eval (.tmp 12) = .pointer (some ⟨gp, 0, none⟩) := hb.pre' 12 (by kernel_rfl)
          have g12 : a.tmps[12]?.getD undef = .pointer (some ⟨gp, 0, none⟩) := by have h := h12; simp only [Act.eval, Array.getD_eq_getD_getElem?] at h; exact h
          exact ⟨.pointer (some ⟨gp, 0, none⟩), by simp [go_sem, g12], by rw [hGs]; rfl⟩
        · refine Flow.step_val rfl fun a W hb hI hd => ?_
          have h38 : a.eval (.tmp 38) = .pointer (some ⟨gp, 0, none⟩) := by have h := hd _ (Array.mem_of_getElem? (i := 0) rfl) rfl; rw [hGs] at h; exact h
          exact ⟨_, run_load1 h38 (by have h := (HBp.out.ext hI).cell 0; exact h), by rw [hGs]; rfl⟩
        · refine Flow.step_val rfl fun a W hb hI hd => ?_
          have h37 : a.eval (.tmp 37) = .slice (some ⟨bv, ov, none⟩) n cv := by have h := hd _ (Array.mem_of_getElem? (i := 0) rfl) rfl; rw [hGs] at h; exact h
          have h39 : a.eval (.tmp 39) = .int .i64 (x : Int) := by have h := hd _ (Array.mem_of_getElem? (i := 1) rfl) rfl; rw [hGs] at h; exact h
          exact ⟨_, run_index105o h37 h39 hxL, by rw [hGs]; rfl⟩
        · refine Flow.step_val rfl fun a W hb hI hd => ?_
          have h40 : a.eval (.tmp 40) = .pointer (some ⟨bv, ov + x * 4, none⟩) := by have h := hd _ (Array.mem_of_getElem? (i := 0) rfl) rfl; rw [hGs] at h; exact h
          exact ⟨_, run_cell4 h40 (HCx.out W hI), by rw [hGs]; rfl⟩
        · refine Flow.step_val rfl fun a W hb hI hd => ?_
          have h6 : a.eval (.tmp 6) = .slice (some ⟨bv, ov, none⟩) n cv := hb.pre' 6 (by kernel_rfl)
          exact ⟨_, rfl, by rw [hGs]; exact h6⟩
        · refine Flow.step_val rfl fun a W hb hI hd => ?_
          have h12 : a.eval (.tmp 12) = .pointer (some ⟨gp, 0, none⟩) := hb.pre' 12 (by kernel_rfl)
          have g12 : a.tmps[12]?.getD undef = .pointer (some ⟨gp, 0, none⟩) := by have h := h12; simp only [Act.eval, Array.getD_eq_getD_getElem?] at h; exact h
          exact ⟨.pointer (some ⟨gp, 1, none⟩), by simp [go_sem, g12], by rw [hGs]; rfl⟩
        · refine Flow.step_val rfl fun a W hb hI hd => ?_
          have h43 : a.eval (.tmp 43) = .pointer (some ⟨gp, 1, none⟩) := by have h := hd _ (Array.mem_of_getElem? (i := 0) rfl) rfl; rw [hGs] at h; exact h
          exact ⟨_, run_load1 h43 (by have h := (HBp.out.ext hI).cell 1; exact h), by rw [hGs]; rfl⟩
        · refine Flow.step_val rfl fun a W hb hI hd => ?_
          have h42 : a.eval (.tmp 42) = .slice (some ⟨bv, ov, none⟩) n cv := by have h := hd _ (Array.mem_of_getElem? (i := 0) rfl) rfl; rw [hGs] at h; exact h
          have h44 : a.eval (.tmp 44) = .int .i64 (y : Int) := by have h := hd _ (Array.mem_of_getElem? (i := 1) rfl) rfl; rw [hGs] at h; exact h
          exact ⟨_, run_index105o h42 h44 hyL, by rw [hGs]; rfl⟩
        · refine Flow.step_val rfl fun a W hb hI hd => ?_
          have h45 : a.eval (.tmp 45) = .pointer (some ⟨bv, ov + y * 4, none⟩) := by have h := hd _ (Array.mem_of_getElem? (i := 0) rfl) rfl; rw [hGs] at h; exact h
          exact ⟨_, run_cell4 h45 (HCy.out W hI), by rw [hGs]; rfl⟩
        · refine Flow.step_call rfl fun a W hb hI hd => ?_
          have h41 : a.eval (.tmp 41) = R4.val rx := by have h := hd _ (Array.mem_of_getElem? (i := 0) rfl) rfl; rw [hGs] at h; exact h
          have h46 : a.eval (.tmp 46) = R4.val ry := by have h := hd _ (Array.mem_of_getElem? (i := 1) rfl) rfl; rw [hGs] at h; exact h
          refine ⟨61, #[a.eval (.tmp 41), a.eval (.tmp 46)], Flow.run_enter (enters_of Tryz.func61 (by kernel_rfl) rfl) (by simp), ?_⟩
          rw [h41, h46]
          refine (sub_rat _ _ vx vy W (HVx.out W hI) (HVy.out W hI) HLx.out HLy.out).mono ?_
          rintro e w' ⟨v, rfl, hm, hE⟩
          exact ⟨v, rfl, by rw [hGs]; exact hm, hI.tr hE, hst.at hE⟩
        · refine Flow.step_to rfl fun a W hb hI hd => ?_
          exact ⟨_, _, .inl run_alloc113, by rw [hGs]; exact ⟨W.heap.size, rfl, hI.size, Blk.new _ _ _⟩, hI.tr ((Below.refl _ _).alloc (Nat.le_refl _) _), hst.at ((Below.refl _ _).alloc (Nat.le_refl _) _)⟩
      case flowend =>
        rw [hGs]
        refine fun W hI v0 h0 v1 h1 v2 h2 v3 h3 v4 h4 v5 h5 v6 h6 v7 h7 v8 h8 v9 h9 v10 h10 v11 h11 => ?_
        obtain rfl : .slice (some ⟨bv, ov, none⟩) n cv = v0 := Eq.symm h0; clear h0
        obtain rfl : .pointer (some ⟨gp, 0, none⟩) = v1 := Eq.symm h1; clear h1
        obtain rfl : .int .i64 (x : Int) = v2 := Eq.symm h2; clear h2
        obtain rfl : .pointer (some ⟨bv, ov + x * 4, none⟩) = v3 := Eq.symm h3; clear h3
        obtain rfl : R4.val rx = v4 := Eq.symm h4; clear h4
        obtain rfl : .slice (some ⟨bv, ov, none⟩) n cv = v5 := Eq.symm h5; clear h5
        obtain rfl : .pointer (some ⟨gp, 1, none⟩) = v6 := Eq.symm h6; clear h6
        obtain rfl : .int .i64 (y : Int) = v7 := Eq.symm h7; clear h7
        obtain rfl : .pointer (some ⟨bv, ov + y * 4, none⟩) = v8 := Eq.symm h8; clear h8
        obtain rfl : R4.val ry = v9 := Eq.symm h9; clear h9
        replace h10 : (fun v W => IsRat W v (vx - vy)) v10 W := h10
        replace h11 : (fun v W => ∃ g, v = .pointer (some ⟨g, 0, none⟩) ∧ wz.heap.size ≤ g ∧ Blk W g 113 (r4cells z4).toArray) v11 W := h11
        clear hst hGs
        show wpList _ _ _ _ _ _
        simp only [List.drop_succ_cons, List.drop_zero, Act.put, List.setIfInBounds_toArray, List.set_cons_zero, List.set_cons_succ]
        obtain ⟨x0, x1, x2, x3, rfl, HX0, p0, p1, p2, p3⟩ := h10.cells4
        clear h10
        replace p0 := st_any p0
        replace p1 := st_any p1
        replace p2 := st_any p2
        replace p3 := st_any p3
        obtain ⟨gx, rfl, hgx, hBx⟩ := h11
        have e0 := hBx.cell 0
        have e1 := hBx.cell 1
        have e2 := hBx.cell 2
        have e3 := hBx.cell 3
        have f0 := hBx.frozen 0
        have f1 := hBx.frozen 1
        have f2 := hBx.frozen 2
        have f3 := hBx.frozen 3
        simp [r4cells] at e0 e1 e2 e3
        have E6 : Ext wz (rput4 W gx 0 (x0, x1, x2, x3)) := hI.rput4 hgx 0 _
        have hBx2 := hBx.rputAll (x0, x1, x2, x3)
        have hX2 := HX0.out.rput4 hBx.ty 0 (x0, x1, x2, x3)
        obtain ⟨wy, hwy, hwy'⟩ : ∃ wy, (((W.setCell ⟨gx, 0, none⟩ x0).setCell ⟨gx, 1, none⟩ x1).setCell ⟨gx, 2, none⟩ x2).setCell ⟨gx, 3, none⟩ x3 = wy ∧ wy = rput4 W gx 0 (x0, x1, x2, x3) := ⟨_, rfl, rfl⟩
        rw [← hwy'] at E6 hBx2 hX2
        have E7 := HE5.out.tr E6
        have HOwn2 := hide (HOwn.out.ext E7)
        have HBU2 := hide (HBU.out.ext E7)
        have HU2 := hide (HU.out.ext E7)
        have HBO2 := hide (HBO.out.ext E7)
        have HO2 := hide (HO.out.ext E7)
        have HE2 := hide (HE.out.tr E7)
        have HBx := hide hBx2
        have HX := hide hX2
        have hgxw5 : w5.heap.size ≤ gx := Nat.le_trans HE5.out.size hgx
        have hownlt : ∀ b, OwnB u8 b → b < w5.heap.size := fun b hb => (HOwn.out.ty b hb).lt
        have HOl := hide hownlt
        have g0 := hBx2.cell 0
        have g1 := hBx2.cell 1
        have g2 := hBx2.cell 2
        have g3 := hBx2.cell 3
        simp [r4cells] at g0 g1 g2 g3
        have hEs : Ext wy (wy.alloc (.cells #[x0, x1, x2, x3] 113)) := (Below.refl _ _).alloc (Nat.le_refl _) _
        have hBs : Blk (wy.alloc (.cells #[x0, x1, x2, x3] 113)) wy.heap.size 113 (r4cells (x0, x1, x2, x3)).toArray := Blk.new _ _ _
        have hkl : (xs.take k).length = k := by rw [List.length_take, HXl.out]; omega
        obtain ⟨v', W', hrun, hown', hK'⟩ := (HOwn2.out.ext hEs).append (cell4_of hBs) (cp := 1) hBs.lt (hX2.ext hEs) (by omega) (HE2.out.tr hEs).size 105
        have hND : NoDigits (wy.alloc (.cells #[x0, x1, x2, x3] 113)) (OwnB u8) := fun b hb => ⟨113, (HOwn2.out.ext hEs).ty b hb, by decide⟩
        have n110 : ∀ g cs, Blk (wy.alloc (.cells #[x0, x1, x2, x3] 113)) g 110 cs → ¬ OwnB u8 g := fun g cs hB hb => ((HOwn2.out.ext hEs).ty g hb).ne hB.ty (by decide) rfl
        have HOwn3 := hide (show OwnRats W' w1.heap.size v' (xs.take (k + 1)) by
          rw [show xs.take (k + 1) = xs.take k ++ [vx - vy] by rw [List.take_succ_eq_append_getElem (by rw [HXl.out]; exact hlt), ← HXk.out, List.getD, List.getElem?_eq_getElem (by rw [HXl.out]; exact hlt)]; rfl]
          exact hown')
        have HBU3 := hide ((HBU2.out.ext hEs).keep hK' (n110 _ _ (HBU2.out.ext hEs)))
        have HU3 := hide ((HU2.out.ext hEs).keep hK' hND)
        have HBO3 := hide ((HBO2.out.ext hEs).keep hK' (n110 _ _ (HBO2.out.ext hEs)))
        have HO3 := hide ((HO2.out.ext hEs).keep hK' hND)
        have HBx3 := hide ((hBx2.ext hEs).keep hK' (fun hb => by have := HOl.out gx hb; omega))
        have HX3 := hide ((hX2.ext hEs).keep hK' hND)
        have HE3 := hide (hK'.ext_of (HE2.out.tr hEs) (fun b hb => HOwn.out.ge b hb))
        have HRun := hide hrun
        clear hrun hown' hK' hND n110 hBs hEs hkl E6 E7 hBx2 hX2 hwy' hgx hBx hownlt
        go_wp2_with (at_builtin; refine wpList_append_run rfl (.tmp 48) (.tmp 50) 105 105 rfl rfl rfl HRun.out ?_)
        obtain ⟨wz, hwz⟩ : ∃ w0, w0 = W' := ⟨_, rfl⟩
        subst hwz
        obtain ⟨xk, hxk⟩ : ∃ q, vx - vy = q := ⟨_, rfl⟩
        rw [hxk] at HX3 HXk HLxk
        obtain ⟨dn, hdn⟩ : ∃ d, xk.den = d := ⟨_, rfl⟩
        obtain ⟨U, hU⟩ : ∃ u, undTo xs k = u := ⟨_, rfl⟩
        obtain ⟨G, hG⟩ : ∃ g, Int.gcd (U : Int) (dn : Int) = g := ⟨_, rfl⟩
        have hGn : Nat.gcd U dn = G := by rw [← hG]; rfl
        have hdnp : 0 < dn := by rw [← hdn]; exact xk.den_pos
        have hUp : 0 < U := by rw [← hU]; exact undTo_pos xs k
        have hGp : 0 < G := by rw [← hGn]; exact Nat.gcd_pos_of_pos_left _ hUp
        have hGd : G ≤ dn := by rw [← hGn]; exact Nat.le_of_dvd hdnp (Nat.gcd_dvd_right _ _)
        have hLdn : (limbs dn).length ≤ 4398046511104 := by rw [← hdn]; exact HLxk.out.2
        have hLU0 : (limbs U).length ≤ 4398046511104 := by rw [← hU, ← HXs.out]; exact HC.out.und k (by omega)
        have HLU := hide (show (limbs ((U : Int)).natAbs).length ≤ 17592186044416 by rw [Int.natAbs_natCast]; omega)
        have HLd := hide (show (limbs ((dn : Int)).natAbs).length ≤ 17592186044416 by rw [Int.natAbs_natCast]; omega)
        have HLG := hide (show (limbs ((G : Int)).natAbs).length ≤ 17592186044416 by rw [Int.natAbs_natCast]; exact Nat.le_trans (limbs_length_mono hGd) (by omega))
        have HG0 := hide (show 0 < (G : Int) by omega)
        have HLUm := hide hLU0; have HLdm := hide hLdn
        rw [hU] at HU3
        have HUe := hide hU; have HDn := hide hdn; have HG := hide hG; have HGn := hide hGn; have HUp := hide hUp
        have hE1z := HE3.out
        have HU := hide (show ∀ W, Ext wz W → IsInt W (.agg #[.bool false, su]) (U : Int) from fun W E => HU3.out.ext E)
        have HX := hide (show ∀ W, Ext wz W → IsRat W (.agg #[x0, x1, x2, x3]) xk from fun W E => HX3.out.ext E)
        have HBU := HBU3; have HBx := hide (show Blk wz gx 113 #[x0, x1, x2, x3] from HBx3.out)
        have q0 := HBx.out.cell 0
        have hgle : gU < wz.heap.size := HBU3.out.lt
        have hgol : gO < wz.heap.size := HBO3.out.lt
        have hgxl : gx < wz.heap.size := HBx3.out.lt
        have HTE := hide (twoE wz ((dn : Int) / (G : Int)))
        clear hxk hdn hU hG hGn hdnp hUp hGp hGd hLdn hLU0 q0 e0 e1 e2 e3 f0 f1 f2 f3 g0 g1 g2 g3 hwy HRun HOwn2 HBU2 HU2 HBO2 HO2 HE2 hE1z
        obtain ⟨Gs, hGs⟩ : ∃ Gs : List (Value → World → Prop), Gs = [(fun v _ => v = .agg #[x0, x1, x2, x3]), (fun v W => IsInt W v ((dn : Int))), (fun v _ => v = .agg #[.bool false, su]), (fun v _ => v = .agg #[x0, x1, x2, x3]), (fun v W => IsInt W v ((dn : Int))), (fun v W => IsInt W v ((G : Int))), (fun v W => ∃ a b, v = .tuple #[a, b] ∧ IsInt W a ((dn : Int) / (G : Int)) ∧ IsInt W b ((dn : Int) % (G : Int))), (fun v W => ∃ a b, v = .tuple #[a, b] ∧ IsInt W a ((dn : Int) / (G : Int)) ∧ IsInt W b ((dn : Int) % (G : Int))), (fun v W => IsInt W v ((dn : Int) / (G : Int))), (fun v W => IsInt W v ((dn : Int) % (G : Int))), (fun _ _ => True), (fun _ _ => True), (fun _ _ => True)] := ⟨_, rfl⟩
        have hst : Flow.Stay Ext Gs := by rw [hGs]; exact (Flow.Stay.cons (fun _ _ _ _ h => h) (Flow.Stay.cons (fun _ _ E _ h => IsInt.ext h E) (Flow.Stay.cons (fun _ _ _ _ h => h) (Flow.Stay.cons (fun _ _ _ _ h => h) (Flow.Stay.cons (fun _ _ E _ h => IsInt.ext h E) (Flow.Stay.cons (fun _ _ E _ h => IsInt.ext h E) (Flow.Stay.cons (fun _ _ E _ h => by obtain ⟨a, b, h1, h2, h3⟩ := h; exact ⟨a, b, h1, h2.ext E, h3.ext E⟩) (Flow.Stay.cons (fun _ _ E _ h => by obtain ⟨a, b, h1, h2, h3⟩ := h; exact ⟨a, b, h1, h2.ext E, h3.ext E⟩) (Flow.Stay.cons (fun _ _ E _ h => IsInt.ext h E) (Flow.Stay.cons (fun _ _ E _ h => IsInt.ext h E) (Flow.Stay.cons (fun _ _ _ _ h => h) (Flow.Stay.cons (fun _ _ _ _ h => h) (Flow.Stay.cons (fun _ _ _ _ h => h) Flow.Stay.nil)))))))))))))
        have hst2 : Flow.Stay (fun W W' => ∀ v i, IsInt W v i → IsInt W' v i) Gs := by rw [hGs]; exact (Flow.Stay.cons (fun _ _ _ _ h => h) (Flow.Stay.cons (fun _ _ E _ h => E _ _ h) (Flow.Stay.cons (fun _ _ _ _ h => h) (Flow.Stay.cons (fun _ _ _ _ h => h) (Flow.Stay.cons (fun _ _ E _ h => E _ _ h) (Flow.Stay.cons (fun _ _ E _ h => E _ _ h) (Flow.Stay.cons (fun _ _ E _ h => by obtain ⟨a, b, h1, h2, h3⟩ := h; exact ⟨a, b, h1, E _ _ h2, E _ _ h3⟩) (Flow.Stay.cons (fun _ _ E _ h => by obtain ⟨a, b, h1, h2, h3⟩ := h; exact ⟨a, b, h1, E _ _ h2, E _ _ h3⟩) (Flow.Stay.cons (fun _ _ E _ h => E _ _ h) (Flow.Stay.cons (fun _ _ E _ h => E _ _ h) (Flow.Stay.cons (fun _ _ _ _ h => h) (Flow.Stay.cons (fun _ _ _ _ h => h) (Flow.Stay.cons (fun _ _ _ _ h => h) Flow.Stay.nil)))))))))))))
        refine Flow.wp_region_flowX 13 (by kernel_rfl) (fun W => Ext wz W) (fun _ _ _ _ => True) Gs (Flow.TwoX 10 14 11 15 12 (QZ wz) (QB wz ((dn : Int) / (G : Int)))) (by kernel_rfl) (Ext.rfl' wz).drew ⟨fun h => by simp at h, fun h => by simp at h, fun h => by simp at h⟩ ?flowsteps ?flowend
        case flowsteps =>
          refine ⟨?_, ?_, ?_, ?_, ?_, ?_, ?_, ?_, ?_, ?_, ?_, ?_, ?_, trivial⟩
          · refine Flow.stepX_val (E := Ext) rfl (fun _ _ _ _ => ⟨trivial, trivial⟩) Ext.rfl' (Flow.TwoX.keep HTE.out (by decide) (by decide) (by decide) (by decide) (by decide)) fun a W hb hI hd => ?_
            have h13 : a.eval (.tmp 13) = .pointer (some ⟨gx, 0, none⟩) := hb.pre' 13 (by kernel_rfl)
            exact ⟨_, run_load4 h13 (by have h := (HBx.out.ext hI).cell 0; exact h) (by have h := (HBx.out.ext hI).cell 1; exact h) (by have h := (HBx.out.ext hI).cell 2; exact h) (by have h := (HBx.out.ext hI).cell 3; exact h), by rw [hGs]; rfl⟩
          · refine Flow.stepX_call (E := Ext) rfl (fun _ _ _ _ => ⟨trivial, trivial⟩) hst (Flow.TwoX.keep HTE.out (by decide) (by decide) (by decide) (by decide) (by decide)) fun a W hb hI hd => ?_
            have h53 : a.eval (.tmp 53) = .agg #[x0, x1, x2, x3] := by have h := hd _ (Array.mem_of_getElem? (i := 0) rfl) rfl; rw [hGs] at h; exact h
            refine ⟨62, #[a.eval (.tmp 53)], Flow.run_enter (enters_of Tryz.func62 (by kernel_rfl) rfl) (by simp), ?_⟩
            rw [h53]
            refine (under_any _ _ W (HX.out W hI)).mono ?_
            rintro e w' ⟨v, rfl, hm, hE⟩
            rw [HDn.out] at hm
            exact ⟨v, rfl, by rw [hGs]; exact hm, hI.tr hE, hE⟩
          · refine Flow.stepX_val (E := Ext) rfl (fun _ _ _ _ => ⟨trivial, trivial⟩) Ext.rfl' (Flow.TwoX.keep HTE.out (by decide) (by decide) (by decide) (by decide) (by decide)) fun a W hb hI hd => ?_
            have h9 : a.eval (.tmp 9) = .pointer (some ⟨gU, 0, none⟩) := hb.pre' 9 (by kernel_rfl)
            exact ⟨_, run_load2 h9 (by have h := (HBU.out.ext hI).cell 0; exact h) (by have h := (HBU.out.ext hI).cell 1; exact h), by rw [hGs]; rfl⟩
          · refine Flow.stepX_val (E := Ext) rfl (fun _ _ _ _ => ⟨trivial, trivial⟩) Ext.rfl' (Flow.TwoX.keep HTE.out (by decide) (by decide) (by decide) (by decide) (by decide)) fun a W hb hI hd => ?_
            have h13 : a.eval (.tmp 13) = .pointer (some ⟨gx, 0, none⟩) := hb.pre' 13 (by kernel_rfl)
            exact ⟨_, run_load4 h13 (by have h := (HBx.out.ext hI).cell 0; exact h) (by have h := (HBx.out.ext hI).cell 1; exact h) (by have h := (HBx.out.ext hI).cell 2; exact h) (by have h := (HBx.out.ext hI).cell 3; exact h), by rw [hGs]; rfl⟩
          · refine Flow.stepX_call (E := Ext) rfl (fun _ _ _ _ => ⟨trivial, trivial⟩) hst (Flow.TwoX.keep HTE.out (by decide) (by decide) (by decide) (by decide) (by decide)) fun a W hb hI hd => ?_
            have h56 : a.eval (.tmp 56) = .agg #[x0, x1, x2, x3] := by have h := hd _ (Array.mem_of_getElem? (i := 0) rfl) rfl; rw [hGs] at h; exact h
            refine ⟨62, #[a.eval (.tmp 56)], Flow.run_enter (enters_of Tryz.func62 (by kernel_rfl) rfl) (by simp), ?_⟩
            rw [h56]
            refine (under_any _ _ W (HX.out W hI)).mono ?_
            rintro e w' ⟨v, rfl, hm, hE⟩
            rw [HDn.out] at hm
            exact ⟨v, rfl, by rw [hGs]; exact hm, hI.tr hE, hE⟩
          · refine Flow.stepX_call (E := Ext) rfl (fun _ _ _ _ => ⟨trivial, trivial⟩) hst (Flow.TwoX.keep HTE.out (by decide) (by decide) (by decide) (by decide) (by decide)) fun a W hb hI hd => ?_
            have h55 : a.eval (.tmp 55) = .agg #[.bool false, su] := by have h := hd _ (Array.mem_of_getElem? (i := 0) rfl) rfl; rw [hGs] at h; exact h
            have h57 : (fun v W => IsInt W v ((dn : Int))) (a.eval (.tmp 57)) W := by have h := hd _ (Array.mem_of_getElem? (i := 1) rfl) rfl; rw [hGs] at h; exact h
            refine ⟨64, #[a.eval (.tmp 55), a.eval (.tmp 57)], Flow.run_enter (enters_of Tryz.func64 (by kernel_rfl) rfl) (by simp), ?_⟩
            rw [h55]
            refine (gcd_any _ _ (U : Int) (dn : Int) W (HU.out W hI) h57 HLU.out HLd.out).mono ?_
            rintro e w' ⟨v, rfl, hm, hE⟩
            rw [HG.out] at hm
            exact ⟨v, rfl, by rw [hGs]; exact hm, hI.tr hE, hE⟩
          · refine Flow.stepX_call (E := Ext) rfl (fun _ _ _ _ => ⟨trivial, trivial⟩) hst (Flow.TwoX.keep HTE.out (by decide) (by decide) (by decide) (by decide) (by decide)) fun a W hb hI hd => ?_
            have h54 : (fun v W => IsInt W v ((dn : Int))) (a.eval (.tmp 54)) W := by have h := hd _ (Array.mem_of_getElem? (i := 0) rfl) rfl; rw [hGs] at h; exact h
            have h58 : (fun v W => IsInt W v ((G : Int))) (a.eval (.tmp 58)) W := by have h := hd _ (Array.mem_of_getElem? (i := 1) rfl) rfl; rw [hGs] at h; exact h
            refine ⟨63, #[a.eval (.tmp 54), a.eval (.tmp 58)], Flow.run_enter (enters_of Tryz.func63 (by kernel_rfl) rfl) (by simp), ?_⟩
            refine (quo_any _ _ (dn : Int) (G : Int) W h54 h58 HG0.out HLd.out HLG.out).mono ?_
            rintro e w' ⟨a1, b1, rfl, ha1, hb1, hE⟩
            exact ⟨_, rfl, by rw [hGs]; exact ⟨a1, b1, rfl, ha1, hb1⟩, hI.tr hE, hE⟩
          · refine Flow.stepX_val (E := Ext) rfl (fun _ _ _ _ => ⟨trivial, trivial⟩) Ext.rfl' (Flow.TwoX.keep HTE.out (by decide) (by decide) (by decide) (by decide) (by decide)) fun a W hb hI hd => ?_
            have h59 : (fun v W => ∃ a b, v = .tuple #[a, b] ∧ IsInt W a ((dn : Int) / (G : Int)) ∧ IsInt W b ((dn : Int) % (G : Int))) (a.eval (.tmp 59)) W := by have h := hd _ (Array.mem_of_getElem? (i := 0) rfl) rfl; rw [hGs] at h; exact h
            exact ⟨_, rfl, by rw [hGs]; exact h59⟩
          · refine Flow.stepX_val (E := Ext) rfl (fun _ _ _ _ => ⟨trivial, trivial⟩) Ext.rfl' (Flow.TwoX.keep HTE.out (by decide) (by decide) (by decide) (by decide) (by decide)) fun a W hb hI hd => ?_
            have h52 : (fun v W => ∃ a b, v = .tuple #[a, b] ∧ IsInt W a ((dn : Int) / (G : Int)) ∧ IsInt W b ((dn : Int) % (G : Int))) (a.eval (.tmp 52)) W := by have h := hd _ (Array.mem_of_getElem? (i := 0) rfl) rfl; rw [hGs] at h; exact h
            obtain ⟨a1, b1, hv, ha1, hb1⟩ := h52
            exact ⟨a1, run_extract0 hv, by rw [hGs]; exact ha1⟩
          · refine Flow.stepX_val (E := Ext) rfl (fun _ _ _ _ => ⟨trivial, trivial⟩) Ext.rfl' (Flow.TwoX.keep HTE.out (by decide) (by decide) (by decide) (by decide) (by decide)) fun a W hb hI hd => ?_
            have h52 : (fun v W => ∃ a b, v = .tuple #[a, b] ∧ IsInt W a ((dn : Int) / (G : Int)) ∧ IsInt W b ((dn : Int) % (G : Int))) (a.eval (.tmp 52)) W := by have h := hd _ (Array.mem_of_getElem? (i := 0) rfl) rfl; rw [hGs] at h; exact h
            obtain ⟨a1, b1, hv, ha1, hb1⟩ := h52
            exact ⟨b1, run_extract1 hv, by rw [hGs]; exact hb1⟩
          · refine Flow.stepX_to rfl fun listed a W hb hI hX hl hdone hd => ?_
            exact ⟨_, _, .inl run_alloc110, by rw [hGs]; exact trivial, hI.tr ((Below.refl _ _).alloc (Nat.le_refl _) _), fun j hj _ => hst.at ((Below.refl _ _).alloc (Nat.le_refl _) _) j hj, fun _ _ _ _ _ => ⟨trivial, trivial⟩, Flow.TwoX.make1 HTE.out hX hl ((Below.refl _ _).alloc (Nat.le_refl _) _) (by rw [hb.size]; simp) (by decide) (by decide) (by decide) ⟨hI.size, Blk.new _ _ _⟩ (by simp)⟩
          · refine Flow.stepX_to rfl fun listed a W hb hI hX hl hdone hd => ?_
            exact ⟨_, _, .inl run_alloc110, by rw [hGs]; exact trivial, hI.tr ((Below.refl _ _).alloc (Nat.le_refl _) _), fun j hj _ => hst.at ((Below.refl _ _).alloc (Nat.le_refl _) _) j hj, fun _ _ _ _ _ => ⟨trivial, trivial⟩, Flow.TwoX.make2 HTE.out hX hl ((Below.refl _ _).alloc (Nat.le_refl _) _) (by rw [hb.size]; simp) (by decide) (by decide) (by decide) ⟨hI.size, Blk.new _ _ _⟩ (by simp)⟩
          · refine Flow.stepX_to rfl fun listed a W hb hI hX hl hdone hd => ?_
            have h14 : (fun _ _ => True) (a.eval (.tmp 14)) W := by have h := hd _ (Array.mem_of_getElem? (i := 0) rfl) rfl; rw [hGs] at h; exact h
            have h60 : (fun v W => IsInt W v ((dn : Int) / (G : Int))) (a.eval (.tmp 60)) W := by have h := hd _ (Array.mem_of_getElem? (i := 1) rfl) rfl; rw [hGs] at h; exact h
            obtain ⟨g, hg, hgs, hz, _⟩ := hX.2.1 (hdone _ (Array.mem_of_getElem? (i := 0) rfl) rfl)
            obtain ⟨hgz, hzB⟩ := hz (Flow.getD_ff hl)
            obtain ⟨s8, hv8, hs8⟩ := h60
            rw [decide_eq_false (show ¬ ((dn : Int) / (G : Int)) < 0 by have := Int.ediv_nonneg (a := (dn : Int)) (b := (G : Int)) (by omega) (by omega); omega)] at hv8
            have hone := hs8.one
            have hIq : IsInt W (.agg #[.bool false, s8]) ((dn : Int) / (G : Int)) := ⟨s8, by rw [decide_eq_false (show ¬ ((dn : Int) / (G : Int)) < 0 by have := Int.ediv_nonneg (a := (dn : Int)) (b := (G : Int)) (by omega) (by omega); omega)], hs8⟩
            have hK : Keep (fun b => b = g) W ((W.setCell ⟨g, 0, none⟩ (.bool false)).setCell ⟨g, 1, none⟩ s8) := ((Keep.refl (fun b => b = g) W).setCell (p := ⟨g, 0, none⟩) (.inl rfl) _).setCell (p := ⟨g, 1, none⟩) (.inl rfl) _
            have hND : NoDigits W (fun b => b = g) := fun b hb => ⟨110, by rw [hb]; exact hzB.ty, by decide⟩
            have hB2 : Blk ((W.setCell ⟨g, 0, none⟩ (.bool false)).setCell ⟨g, 1, none⟩ s8) g 110 #[.bool false, s8] := (hzB.set_ 0 _).set_ 1 _
            exact ⟨undef, _, .inr ⟨run_store110 (by exact hg) hv8 hzB hone, rfl⟩, by rw [hGs]; exact trivial, (hI.setCell (p := ⟨g, 0, none⟩) hgz _).setCell (p := ⟨g, 1, none⟩) hgz _, fun j hj _ => hst2.at (fun v i h => h.keep hK hND) j hj, fun _ _ _ _ _ => ⟨trivial, trivial⟩, hX.fill hl (hdone _ (Array.mem_of_getElem? (i := 0) rfl) rfl) (by decide) (by decide) hg (by simp [World.setCell]) ⟨hgz, s8, hB2, hIq.keep hK hND⟩ (fun k hk h => ⟨h.1, h.2.keep hK hk⟩) _⟩
        case flowend =>
          rw [hGs]
          refine fun W hI v0 h0 v1 h1 v2 h2 v3 h3 v4 h4 v5 h5 v6 h6 v7 h7 v8 h8 v9 h9 v10 h10 v11 h11 v12 h12 _ hXd => ?_
          obtain rfl : .agg #[x0, x1, x2, x3] = v0 := Eq.symm h0; clear h0
          replace h1 : (fun v W => IsInt W v ((dn : Int))) v1 W := h1
          obtain rfl : .agg #[.bool false, su] = v2 := Eq.symm h2; clear h2
          obtain rfl : .agg #[x0, x1, x2, x3] = v3 := Eq.symm h3; clear h3
          replace h4 : (fun v W => IsInt W v ((dn : Int))) v4 W := h4
          replace h5 : (fun v W => IsInt W v ((G : Int))) v5 W := h5
          replace h6 : (fun v W => ∃ a b, v = .tuple #[a, b] ∧ IsInt W a ((dn : Int) / (G : Int)) ∧ IsInt W b ((dn : Int) % (G : Int))) v6 W := h6
          replace h7 : (fun v W => ∃ a b, v = .tuple #[a, b] ∧ IsInt W a ((dn : Int) / (G : Int)) ∧ IsInt W b ((dn : Int) % (G : Int))) v7 W := h7
          replace h8 : (fun v W => IsInt W v ((dn : Int) / (G : Int))) v8 W := h8
          replace h9 : (fun v W => IsInt W v ((dn : Int) % (G : Int))) v9 W := h9
          replace h10 : (fun _ _ => True) v10 W := h10
          replace h11 : (fun _ _ => True) v11 W := h11
          replace h12 : (fun _ _ => True) v12 W := h12
          clear hst hGs
          show wpList _ _ _ _ _ _
          simp only [List.drop_succ_cons, List.drop_zero, Act.put, List.setIfInBounds_toArray, List.set_cons_zero, List.set_cons_succ]
          obtain ⟨g10, e10, _, _, hQf⟩ := hXd.2.1 (by rfl)
          obtain ⟨g11, e11, _, hZf, hne⟩ := hXd.2.2 (by rfl)
          have hne' := hne (by rfl)
          clear hXd hne
          simp only [Act.put, List.setIfInBounds_toArray, List.set_cons_zero, List.set_cons_succ, Array.getD_eq_getD_getElem?, List.getElem?_toArray, List.getElem?_cons_succ, List.getElem?_cons_zero, Option.getD_some] at e10 e11 hne'
          have hne2 : g11 ≠ g10 := fun e => hne' (by rw [e10, e])
          subst e10
          subst e11
          obtain ⟨hgq, sq, hBq, hIq⟩ := hQf (by rfl)
          obtain ⟨hgz, hBz⟩ := hZf
          obtain ⟨s9, rfl, hs9⟩ := h9
          rw [decide_eq_false (show ¬ ((dn : Int) % (G : Int)) < 0 by have := Int.emod_nonneg (dn : Int) (b := (G : Int)) (by have := HG0.out; omega); omega)]
          have o9 := st_any hs9.one
          have z0 := hBz.cell 0
          have z1 := hBz.cell 1
          have zf0 := hBz.frozen 0
          have zf1 := hBz.frozen 1
          simp at z0 z1
          have hE9 : Ext wz ((W.setCell ⟨g11, 0, none⟩ (.bool false)).setCell ⟨g11, 1, none⟩ s9) := (hI.setCell (p := ⟨g11, 0, none⟩) hgz _).setCell (p := ⟨g11, 1, none⟩) hgz _
          have hK9 : Keep (fun b => b = g11) W ((W.setCell ⟨g11, 0, none⟩ (.bool false)).setCell ⟨g11, 1, none⟩ s9) := ((Keep.refl (fun b => b = g11) W).setCell (p := ⟨g11, 0, none⟩) (.inl rfl) _).setCell (p := ⟨g11, 1, none⟩) (.inl rfl) _
          have hBq9 := hBq.keep hK9 (fun e => hne2 e.symm)
          have hIq9 := hIq.keep hK9 (fun b hb => ⟨110, by rw [hb]; exact hBz.ty, by decide⟩)
          obtain ⟨w9, hw9, hw9'⟩ : ∃ w9, (W.setCell ⟨g11, 0, none⟩ (.bool false)).setCell ⟨g11, 1, none⟩ s9 = w9 ∧ w9 = (W.setCell ⟨g11, 0, none⟩ (.bool false)).setCell ⟨g11, 1, none⟩ s9 := ⟨_, rfl, rfl⟩
          rw [← hw9'] at hE9 hBq9 hIq9
          have HBq := hide hBq9; have HIq := hide hIq9
          have HBU9 := hide (HBU3.out.ext hE9)
          have HU9 := hide (HU3.out.ext hE9)
          have HE9 := hide hE9
          have q0 := hBq9.cell 0
          have q1 := hBq9.cell 1
          have r0 := HBU9.out.cell 0
          have r1 := HBU9.out.cell 1
          have rf0 := HBU9.out.frozen 0
          have rf1 := HBU9.out.frozen 1
          simp at q0 q1 r0 r1
          have hqle : (dn : Int) / (G : Int) = ((dn / G : Nat) : Int) := by simp
          have HMu := hide (mul_any _ _ (U : Int) ((dn : Int) / (G : Int)) w9 HU9.out HIq.out (by
            rw [hqle, Int.natAbs_natCast, Int.natAbs_natCast]
            have h1 : (limbs (dn / G)).length ≤ 4398046511104 := Nat.le_trans (limbs_length_mono (Nat.div_le_self _ _)) HLdm.out
            have h2 := HLUm.out
            omega))
          have HQl := hide hqle
          clear hQf hne' hBq hIq hBz hE9 hK9 hBq9 hIq9 hw9' hs9 hqle
          go_wp2_with fail
          refine HMu.out.mono ?_
          rintro e wc ⟨vm, rfl, ⟨sm, rfl, hsm⟩, E10⟩
          rw [HQl.out, ← Int.natCast_mul] at hsm
          rw [show decide ((U : Int) * ((dn : Int) / (G : Int)) < 0) = false by rw [HQl.out, ← Int.natCast_mul]; exact decide_eq_false (by omega)]
          have om := st_any hsm.one
          have C := HBU9.out.ext E10
          have c0 := C.cell 0
          have c1 := C.cell 1
          have cf0 := C.frozen 0
          have cf1 := C.frozen 1
          simp at c0 c1
          have hE' := HE9.out.tr E10
          have hKu : Keep (fun b => b = gU) wc ((wc.setCell ⟨gU, 0, none⟩ (.bool false)).setCell ⟨gU, 1, none⟩ sm) := ((Keep.refl (fun b => b = gU) wc).setCell (p := ⟨gU, 0, none⟩) (.inl rfl) _).setCell (p := ⟨gU, 1, none⟩) (.inl rfl) _
          have hNu : NoDigits wc (fun b => b = gU) := fun b hb => ⟨110, by rw [hb]; exact C.ty, by decide⟩
          have hUm : IsInt wc (.agg #[.bool false, sm]) ((U * (dn / G) : Nat) : Int) := ⟨sm, by rw [decide_eq_false (by omega)], hsm⟩
          have k1 := (HOwn3.out.ext hE').keep hKu (fun b hb e => by subst e; exact ((HOwn3.out.ext hE').ty _ hb).ne C.ty (by decide) rfl) hNu
          have k2 : Blk ((wc.setCell ⟨gU, 0, none⟩ (.bool false)).setCell ⟨gU, 1, none⟩ sm) gU 110 #[.bool false, sm] := (C.set_ 0 _).set_ 1 _
          have k3 := hUm.keep hKu hNu
          have k4 := (HBO3.out.ext hE').keep hKu (fun e => HUO.out.1 e.symm)
          have k5 := (HO3.out.ext hE').keep hKu hNu
          have k6 := hKu.ext_of (HE3.out.tr hE') (fun i hi => by rw [hi]; exact HUO.out.2.1)
          obtain ⟨wd, hwd, hwd'⟩ : ∃ wd, (wc.setCell ⟨gU, 0, none⟩ (.bool false)).setCell ⟨gU, 1, none⟩ sm = wd ∧ wd = (wc.setCell ⟨gU, 0, none⟩ (.bool false)).setCell ⟨gU, 1, none⟩ sm := ⟨_, rfl, rfl⟩
          rw [← hwd'] at k1 k2 k3 k4 k5 k6
          have H1 := hide k1; have H2 := hide k2; have H3 := hide k3; have H4 := hide k4; have H5 := hide k5; have H6 := hide k6
          clear k1 k2 k3 k4 k5 k6 hwd' hKu hNu hUm C hE' hsm E10
          go_wp2_with fail
          go_roundw
          case rel =>
            refine ⟨k + 1, sm, by omega, by go_num, H1.out, H2.out, ?_, H4.out, H5.out, H6.out⟩
            have h := H3.out
            have hx2 : undTo xs (k + 1) = U * (dn / G) := by
              show undTo xs k * ((xs.getD k 0).den / Nat.gcd (undTo xs k) (xs.getD k 0).den) = _
              rw [HUe.out, HXk.out, HDn.out, HGn.out]
            rw [hx2]; exact h
          case measure => simp [intOf]; omega
    · obtain rfl : k = ps.length := by omega
      obtain ⟨U, hU⟩ : ∃ u, undTo xs ps.length = u := ⟨_, rfl⟩
      have hxt : xs.take ps.length = xs := List.take_of_length_le (by rw [HXl.out]; exact Nat.le_refl _)
      have hown := HOwn.out
      rw [hxt] at hown
      obtain ⟨gl, cl, rfl, hgl, hrow⟩ := hown.row (by rw [HXl.out]; exact hp0)
      rw [HXl.out]
      rw [hU] at HU
      have HRow := hide hrow
      have HLU := hide (show RatLen ((U : Int) : Rat) 4398046511104 from RatLen.nat (by rw [← hU, ← HXs.out]; exact HC.out.und _ (Nat.le_refl _)) (by decide))
      obtain ⟨f, hf⟩ : ∃ f : Rat → Rat, f = (· * ((U : Int) : Rat)) := ⟨_, rfl⟩
      obtain ⟨ys, hys⟩ : ∃ ys, scaled xs = ys := ⟨_, rfl⟩
      have hysf : ys = xs.map f := by rw [← hys, hf, scaled, HXl.out, hU]
      have hylen : ys.length = ps.length := by rw [hysf, List.length_map, HXl.out]
      have hyg : ∀ i, i < ps.length → ys.getD i 0 = xs.getD i 0 * ((U : Int) : Rat) := fun i hi => by rw [hysf, map_getD f xs i 0 0 (by rw [HXl.out]; exact hi), hf]
      have HYg := hide hyg; have HYl := hide hylen; have HYf := hide hysf; have HF := hide hf; have HYs := hide hys; have HUe := hide hU
      have HNe := hide (show gl ≠ gU ∧ gl ≠ gO by exact ⟨hrow.ty.ne HBU.out.ty (by decide), hrow.ty.ne HBO.out.ty (by decide)⟩)
      clear hU hxt hown hrow hf hys hysf hylen hyg HOwn
      go_wp2_with fail
      go_loopw [68] (fun s wr => ∃ (i : Nat) (so : Value), i ≤ ps.length ∧ s = .int .i64 (i : Int) ∧ RRow wr gl cl (stepMap f xs i) ∧ Blk wr gU 110 #[.bool false, su] ∧ IsInt wr (.agg #[.bool false, su]) (U : Int) ∧
          Blk wr gO 110 #[.bool false, so] ∧ IsInt wr (.agg #[.bool false, so]) ((ovrTo ys i : Nat) : Int) ∧ Ext w1 wr) (fun s _ => ps.length - (intOf s).toNat)
      case atStart => exact ⟨0, so, Nat.zero_le _, rfl, by rw [stepMap_zero]; exact HRow.out, HBU.out, HU.out, HBO.out, HO.out, HE.out⟩
      case round =>
        obtain ⟨i, so, hi, rfl, hrow, hbu, hu, hbo, ho, hE⟩ := hrel
        have HRow2 := hide hrow; have HBU2 := hide hbu; have HU2 := hide hu; have HBO2 := hide hbo; have HO2 := hide ho; have HE2 := hide hE
        clear hrow hbu hu hbo ho hE
        obtain ⟨w6, hw6⟩ : ∃ w0, w0 = wr := ⟨_, rfl⟩
        subst hw6
        by_cases hlt : i < ps.length
        · have hlx : i < (stepMap f xs i).length := by rw [stepMap_length, HXl.out]; exact hlt
          obtain ⟨⟨x0, x1, x2, x3⟩, ⟨a0, a1, a2, a3⟩, hxr⟩ := HRow2.out.at hlx
          rw [stepMap_get f xs i (by rw [HXl.out]; exact hlt)] at hxr
          obtain ⟨x, hx⟩ : ∃ x, xs.getD i 0 = x := ⟨_, rfl⟩
          rw [hx] at hxr
          have HXe := hide hx
          have HLx := hide (show RatLen x 4398046511104 by rw [← hx, ← HXs.out]; exact HC.out.dx i hlt)
          have hones := hxr.ones
          have p0 := st_any (hones x0 (by simp [r4cells]))
          have p1 := st_any (hones x1 (by simp [r4cells]))
          have p2 := st_any (hones x2 (by simp [r4cells]))
          have p3 := st_any (hones x3 (by simp [r4cells]))
          have HX0 := hide hxr
          clear hx hxr hones hlx
          go_wp2_with fail
          have hEb : Ext w6 (w6.alloc (.cells #[x0, x1, x2, x3] 113)) := (Below.refl _ _).alloc (Nat.le_refl _) _
          obtain ⟨gx, hgx⟩ : ∃ g, w6.heap.size = g := ⟨_, rfl⟩
          have HBx := hide (show Blk (w6.alloc (.cells #[x0, x1, x2, x3] 113)) gx 113 #[x0, x1, x2, x3] from Blk.new' _ _ _ _ hgx.symm)
          have HX := hide (HX0.out.ext hEb)
          have HRow := hide (HRow2.out.ext hEb); have HBU := hide (HBU2.out.ext hEb); have HU := hide (HU2.out.ext hEb); have HBO3 := hide (HBO2.out.ext hEb); have HO3 := hide (HO2.out.ext hEb); have HE3 := hide (HE2.out.tr hEb)
          rw [hgx]
          generalize w6.alloc (.cells #[x0, x1, x2, x3] 113) = wz at HBx HX HRow HBU HU HBO3 HO3 HE3 ⊢
          clear hEb hgx a0 a1 a2 a3 p0 p1 p2 p3
          obtain ⟨Gs, hGs⟩ : ∃ Gs : List (Value → World → Prop), Gs = [(fun v _ => v = .slice (some ⟨gl, 0, none⟩) ps.length cl), (fun v _ => v = .int .i64 (i : Int)), (fun v _ => v = .agg #[x0, x1, x2, x3]), (fun v _ => v = .agg #[.bool false, su]), (fun v W => IsRat W v (((U : Int) : Rat))), (fun v W => IsRat W v (x * ((U : Int) : Rat))), (fun v _ => v = .pointer (some ⟨gl, i * 4, none⟩))] := ⟨_, rfl⟩
          have hst : Flow.Stay Ext Gs := by rw [hGs]; exact (Flow.Stay.cons (fun _ _ _ _ h => h) (Flow.Stay.cons (fun _ _ _ _ h => h) (Flow.Stay.cons (fun _ _ _ _ h => h) (Flow.Stay.cons (fun _ _ _ _ h => h) (Flow.Stay.cons (fun _ _ E _ h => IsRat.ext h E) (Flow.Stay.cons (fun _ _ E _ h => IsRat.ext h E) (Flow.Stay.cons (fun _ _ _ _ h => h) Flow.Stay.nil)))))))
          refine Flow.wp_region_flow 7 (by kernel_rfl) (fun W => Ext wz W) Gs (by kernel_rfl) (Ext.rfl' wz).drew ?flowsteps ?flowend
          case flowsteps =>
            refine ⟨?_, ?_, ?_, ?_, ?_, ?_, ?_, trivial⟩
            · refine Flow.step_val rfl fun a W hb hI hd => ?_
              have h8 : a.eval (.tmp 8) = .slice (some ⟨gl, 0, none⟩) ps.length cl := hb.pre' 8 (by kernel_rfl)
              exact ⟨_, rfl, by rw [hGs]; exact h8⟩
            · refine Flow.step_val rfl fun a W hb hI hd => ?_
              have h16 : a.eval (.tmp 16) = .int .i64 (i : Int) := hb.pre' 16 (by kernel_rfl)
              exact ⟨_, rfl, by rw [hGs]; exact h16⟩
            · refine Flow.step_val rfl fun a W hb hI hd => ?_
              have h17 : a.eval (.tmp 17) = .pointer (some ⟨gx, 0, none⟩) := hb.pre' 17 (by kernel_rfl)
              exact ⟨_, run_load4 h17 (by have h := (HBx.out.ext hI).cell 0; exact h) (by have h := (HBx.out.ext hI).cell 1; exact h) (by have h := (HBx.out.ext hI).cell 2; exact h) (by have h := (HBx.out.ext hI).cell 3; exact h), by rw [hGs]; rfl⟩
            · refine Flow.step_val rfl fun a W hb hI hd => ?_
              have h9 : a.eval (.tmp 9) = .pointer (some ⟨gU, 0, none⟩) := hb.pre' 9 (by kernel_rfl)
              exact ⟨_, run_load2 h9 (by have h := (HBU.out.ext hI).cell 0; exact h) (by have h := (HBU.out.ext hI).cell 1; exact h), by rw [hGs]; rfl⟩
            · refine Flow.step_call rfl fun a W hb hI hd => ?_
              have h76 : a.eval (.tmp 76) = .agg #[.bool false, su] := by have h := hd _ (Array.mem_of_getElem? (i := 0) rfl) rfl; rw [hGs] at h; exact h
              refine ⟨67, #[a.eval (.tmp 76)], Flow.run_enter (enters_of Tryz.func67 (by kernel_rfl) rfl) (by simp), ?_⟩
              rw [h76]
              refine (fromInt_any _ _ W (HU.out.ext hI)).mono ?_
              rintro e w' ⟨v, rfl, hm, hE⟩
              exact ⟨v, rfl, by rw [hGs]; exact hm, hI.tr hE, hst.at hE⟩
            · refine Flow.step_call rfl fun a W hb hI hd => ?_
              have h75 : a.eval (.tmp 75) = .agg #[x0, x1, x2, x3] := by have h := hd _ (Array.mem_of_getElem? (i := 0) rfl) rfl; rw [hGs] at h; exact h
              have h77 : (fun v W => IsRat W v (((U : Int) : Rat))) (a.eval (.tmp 77)) W := by have h := hd _ (Array.mem_of_getElem? (i := 1) rfl) rfl; rw [hGs] at h; exact h
              refine ⟨66, #[a.eval (.tmp 75), a.eval (.tmp 77)], Flow.run_enter (enters_of Tryz.func66 (by kernel_rfl) rfl) (by simp), ?_⟩
              rw [h75]
              refine (mul_rat _ _ x ((U : Int) : Rat) W (HX.out.ext hI) h77 HLx.out HLU.out).mono ?_
              rintro e w' ⟨v, rfl, hm, hE⟩
              exact ⟨v, rfl, by rw [hGs]; exact hm, hI.tr hE, hst.at hE⟩
            · refine Flow.step_val rfl fun a W hb hI hd => ?_
              have h73 : a.eval (.tmp 73) = .slice (some ⟨gl, 0, none⟩) ps.length cl := by have h := hd _ (Array.mem_of_getElem? (i := 0) rfl) rfl; rw [hGs] at h; exact h
              have h74 : a.eval (.tmp 74) = .int .i64 (i : Int) := by have h := hd _ (Array.mem_of_getElem? (i := 1) rfl) rfl; rw [hGs] at h; exact h
              exact ⟨_, run_index105 h73 h74 hlt, by rw [hGs]; rfl⟩
          case flowend =>
            rw [hGs]
            refine fun W hI v0 h0 v1 h1 v2 h2 v3 h3 v4 h4 v5 h5 v6 h6 => ?_
            obtain rfl : .slice (some ⟨gl, 0, none⟩) ps.length cl = v0 := Eq.symm h0; clear h0
            obtain rfl : .int .i64 (i : Int) = v1 := Eq.symm h1; clear h1
            obtain rfl : .agg #[x0, x1, x2, x3] = v2 := Eq.symm h2; clear h2
            obtain rfl : .agg #[.bool false, su] = v3 := Eq.symm h3; clear h3
            replace h4 : (fun v W => IsRat W v (((U : Int) : Rat))) v4 W := h4
            replace h5 : (fun v W => IsRat W v (x * ((U : Int) : Rat))) v5 W := h5
            obtain rfl : .pointer (some ⟨gl, i * 4, none⟩) = v6 := Eq.symm h6; clear h6
            clear hst hGs
            show wpList _ _ _ _ _ _
            simp only [List.drop_succ_cons, List.drop_zero, Act.put, List.setIfInBounds_toArray, List.set_cons_zero, List.set_cons_succ]
            obtain ⟨y0, y1, y2, y3, rfl, HYr, p0, p1, p2, p3⟩ := h5.cells4
            clear h5 h4
            replace p0 := st_any p0
            replace p1 := st_any p1
            replace p2 := st_any p2
            replace p3 := st_any p3
            have C := HRow.out.ext hI
            have hlx : i < (stepMap f xs i).length := by rw [stepMap_length, HXl.out]; exact hlt
            obtain ⟨_, ⟨a0, a1, a2, a3⟩, _⟩ := C.at hlx
            have f0 := C.frozen (i * 4)
            have f1 := C.frozen (i * 4 + 1)
            have f2 := C.frozen (i * 4 + 2)
            have f3 := C.frozen (i * 4 + 3)
            have hK : Keep (fun b => b = gl) W (rput4 W gl (i * 4) (y0, y1, y2, y3)) := Keep.rput4 (S := fun b => b = gl) (Keep.refl _ W) (.inl rfl) _
            have hN : NoDigits W (fun b => b = gl) := fun b hb => ⟨113, by rw [hb]; exact C.ty, by decide⟩
            have k1 := C.put hlx HYr.out
            have k2 := (HBU.out.ext hI).keep hK (fun e => HNe.out.1 e.symm)
            have k3 := (HU.out.ext hI).keep hK hN
            have k4 := (HBO3.out.ext hI).keep hK (fun e => HNe.out.2 e.symm)
            have k5 := (HO3.out.ext hI).keep hK hN
            have k6 := hK.ext_of (HE3.out.tr hI) (fun b hb => by rw [hb]; exact hgl)
            obtain ⟨w8, hw8, hw8'⟩ : ∃ w8, (((W.setCell ⟨gl, i * 4, none⟩ y0).setCell ⟨gl, i * 4 + 1, none⟩ y1).setCell ⟨gl, i * 4 + 2, none⟩ y2).setCell ⟨gl, i * 4 + 3, none⟩ y3 = w8 ∧ w8 = rput4 W gl (i * 4) (y0, y1, y2, y3) := ⟨_, rfl, rfl⟩
            rw [← hw8'] at k1 k2 k3 k4 k5 k6
            have hsm : (stepMap f xs i).set i (x * ((U : Int) : Rat)) = stepMap f xs (i + 1) := by rw [← stepMap_succ f xs i (by rw [HXl.out]; exact hlt), HXe.out, HF.out]
            rw [hsm] at k1
            have H1 := hide k1; have H2 := hide k2; have H3 := hide k3; have HBO := hide k4; have HO4 := hide k5; have H6 := hide k6
            clear k1 k2 k3 k4 k5 k6 hw8' hK hN C hsm
            go_wp2_with fail
            clear hw8 a0 a1 a2 a3 f0 f1 f2 f3
            obtain ⟨wz, hwz⟩ : ∃ w0, w0 = w8 := ⟨_, rfl⟩
            subst hwz
            obtain ⟨O, hO⟩ : ∃ o, ovrTo ys i = o := ⟨_, rfl⟩
            obtain ⟨y, hy⟩ : ∃ y, ys.getD i 0 = y := ⟨_, rfl⟩
            rw [hO] at HO4
            have HO := HO4
            have hly : i < (stepMap f xs (i + 1)).length := by rw [stepMap_length, HXl.out]; exact hlt
            obtain ⟨ry, hry1, hry2⟩ := H1.out.at hly
            have hyv : (stepMap f xs (i + 1)).getD i 0 = y := by
              rw [← stepMap_succ f xs i (by rw [HXl.out]; exact hlt), List.getD, List.getElem?_set_self (by rw [stepMap_length, HXl.out]; exact hlt), Option.getD_some, ← hy, HYg.out i hlt, HF.out]
            rw [hyv] at hry2
            have hgll := H1.out.ty.lt
            have HCy : Hid (∀ W, Ext wz W → Cell4 W gl (i * 4) ry) := fun W E => hry1.ext hgll E
            have HY : Hid (∀ W, Ext wz W → IsRat W ry.val y) := fun W E => hry2.ext E
            have HLO := hide (show (limbs ((O : Int)).natAbs).length ≤ 17592186044416 by rw [Int.natAbs_natCast, ← hO, ← HYs.out, ← HXs.out]; exact Nat.le_trans (HC.out.ovr i (by omega)) (by decide))
            have HLy := hide (show (limbs y.num.natAbs).length ≤ 17592186044416 by rw [← hy, ← HYs.out, ← HXs.out]; exact Nat.le_trans (HC.out.sc i hlt).1 (by decide))
            have HOe := hide hO; have HYe := hide hy
            clear hO hy hly hry1 hry2 hyv hgll
            obtain ⟨Gs, hGs⟩ : ∃ Gs : List (Value → World → Prop), Gs = [(fun v _ => v = .agg #[.bool false, so]), (fun v _ => v = .slice (some ⟨gl, 0, none⟩) ps.length cl), (fun v _ => v = .int .i64 (i : Int)), (fun v _ => v = .pointer (some ⟨gl, i * 4, none⟩)), (fun v _ => v = R4.val ry), (fun v W => IsInt W v (y.num)), (fun v W => IsInt W v (((Int.gcd (O : Int) y.num : Nat) : Int)))] := ⟨_, rfl⟩
            have hst : Flow.Stay Ext Gs := by rw [hGs]; exact (Flow.Stay.cons (fun _ _ _ _ h => h) (Flow.Stay.cons (fun _ _ _ _ h => h) (Flow.Stay.cons (fun _ _ _ _ h => h) (Flow.Stay.cons (fun _ _ _ _ h => h) (Flow.Stay.cons (fun _ _ _ _ h => h) (Flow.Stay.cons (fun _ _ E _ h => IsInt.ext h E) (Flow.Stay.cons (fun _ _ E _ h => IsInt.ext h E) Flow.Stay.nil)))))))
            refine Flow.wp_region_flow 7 (by kernel_rfl) (fun W => Ext wz W) Gs (by kernel_rfl) (Ext.rfl' wz).drew ?flowsteps ?flowend
            case flowsteps =>
              refine ⟨?_, ?_, ?_, ?_, ?_, ?_, ?_, trivial⟩
              · refine Flow.step_val rfl fun a W hb hI hd => ?_
                have h10 : a.eval (.tmp 10) = .pointer (some ⟨gO, 0, none⟩) := hb.pre' 10 (by kernel_rfl)
                exact ⟨_, run_load2 h10 (by have h := (HBO.out.ext hI).cell 0; exact h) (by have h := (HBO.out.ext hI).cell 1; exact h), by rw [hGs]; rfl⟩
              · refine Flow.step_val rfl fun a W hb hI hd => ?_
                have h8 : a.eval (.tmp 8) = .slice (some ⟨gl, 0, none⟩) ps.length cl := hb.pre' 8 (by kernel_rfl)
                exact ⟨_, rfl, by rw [hGs]; exact h8⟩
              · refine Flow.step_val rfl fun a W hb hI hd => ?_
                have h16 : a.eval (.tmp 16) = .int .i64 (i : Int) := hb.pre' 16 (by kernel_rfl)
                exact ⟨_, rfl, by rw [hGs]; exact h16⟩
              · refine Flow.step_val rfl fun a W hb hI hd => ?_
                have h81 : a.eval (.tmp 81) = .slice (some ⟨gl, 0, none⟩) ps.length cl := by have h := hd _ (Array.mem_of_getElem? (i := 0) rfl) rfl; rw [hGs] at h; exact h
                have h82 : a.eval (.tmp 82) = .int .i64 (i : Int) := by have h := hd _ (Array.mem_of_getElem? (i := 1) rfl) rfl; rw [hGs] at h; exact h
                exact ⟨_, run_index105 h81 h82 hlt, by rw [hGs]; rfl⟩
              · refine Flow.step_val rfl fun a W hb hI hd => ?_
                have h83 : a.eval (.tmp 83) = .pointer (some ⟨gl, i * 4, none⟩) := by have h := hd _ (Array.mem_of_getElem? (i := 0) rfl) rfl; rw [hGs] at h; exact h
                exact ⟨_, run_cell4 h83 (HCy.out W hI), by rw [hGs]; rfl⟩
              · refine Flow.step_call rfl fun a W hb hI hd => ?_
                have h84 : a.eval (.tmp 84) = R4.val ry := by have h := hd _ (Array.mem_of_getElem? (i := 0) rfl) rfl; rw [hGs] at h; exact h
                refine ⟨68, #[a.eval (.tmp 84)], Flow.run_enter (enters_of Tryz.func68 (by kernel_rfl) rfl) (by simp), ?_⟩
                rw [h84]
                refine (over_any _ _ W (HY.out W hI)).mono ?_
                rintro e w' ⟨v, rfl, hm, hE⟩
                exact ⟨v, rfl, by rw [hGs]; exact hm, hI.tr hE, hst.at hE⟩
              · refine Flow.step_call rfl fun a W hb hI hd => ?_
                have h80 : a.eval (.tmp 80) = .agg #[.bool false, so] := by have h := hd _ (Array.mem_of_getElem? (i := 0) rfl) rfl; rw [hGs] at h; exact h
                have h85 : (fun v W => IsInt W v (y.num)) (a.eval (.tmp 85)) W := by have h := hd _ (Array.mem_of_getElem? (i := 1) rfl) rfl; rw [hGs] at h; exact h
                refine ⟨64, #[a.eval (.tmp 80), a.eval (.tmp 85)], Flow.run_enter (enters_of Tryz.func64 (by kernel_rfl) rfl) (by simp), ?_⟩
                rw [h80]
                refine (gcd_any _ _ (O : Int) y.num W (HO.out.ext hI) h85 HLO.out HLy.out).mono ?_
                rintro e w' ⟨v, rfl, hm, hE⟩
                exact ⟨v, rfl, by rw [hGs]; exact hm, hI.tr hE, hst.at hE⟩
            case flowend =>
              rw [hGs]
              refine fun W hI v0 h0 v1 h1 v2 h2 v3 h3 v4 h4 v5 h5 v6 h6 => ?_
              obtain rfl : .agg #[.bool false, so] = v0 := Eq.symm h0; clear h0
              obtain rfl : .slice (some ⟨gl, 0, none⟩) ps.length cl = v1 := Eq.symm h1; clear h1
              obtain rfl : .int .i64 (i : Int) = v2 := Eq.symm h2; clear h2
              obtain rfl : .pointer (some ⟨gl, i * 4, none⟩) = v3 := Eq.symm h3; clear h3
              obtain rfl : R4.val ry = v4 := Eq.symm h4; clear h4
              replace h5 : (fun v W => IsInt W v (y.num)) v5 W := h5
              replace h6 : (fun v W => IsInt W v (((Int.gcd (O : Int) y.num : Nat) : Int))) v6 W := h6
              clear hst hGs
              show wpList _ _ _ _ _ _
              simp only [List.drop_succ_cons, List.drop_zero, Act.put, List.setIfInBounds_toArray, List.set_cons_zero, List.set_cons_succ]
              obtain ⟨sm, rfl, hsm⟩ := h6
              rw [show decide (((Int.gcd (O : Int) y.num : Nat) : Int) < 0) = false from decide_eq_false (by omega)]
              have om := st_any hsm.one
              have C := HBO.out.ext hI
              have c0 := C.cell 0
              have c1 := C.cell 1
              have cf0 := C.frozen 0
              have cf1 := C.frozen 1
              simp at c0 c1
              have hKu : Keep (fun b => b = gO) W ((W.setCell ⟨gO, 0, none⟩ (.bool false)).setCell ⟨gO, 1, none⟩ sm) := ((Keep.refl (fun b => b = gO) W).setCell (p := ⟨gO, 0, none⟩) (.inl rfl) _).setCell (p := ⟨gO, 1, none⟩) (.inl rfl) _
              have hNu : NoDigits W (fun b => b = gO) := fun b hb => ⟨110, by rw [hb]; exact C.ty, by decide⟩
              have hUm : IsInt W (.agg #[.bool false, sm]) ((Int.gcd (O : Int) y.num : Nat) : Int) := ⟨sm, by rw [decide_eq_false (by omega)], hsm⟩
              have k1 := (H1.out.ext hI).keep hKu (fun e => HNe.out.2 e) hNu
              have k2 := (H2.out.ext hI).keep hKu (fun e => HUO.out.1 e)
              have k3 := (H3.out.ext hI).keep hKu hNu
              have k4 : Blk ((W.setCell ⟨gO, 0, none⟩ (.bool false)).setCell ⟨gO, 1, none⟩ sm) gO 110 #[.bool false, sm] := (C.set_ 0 _).set_ 1 _
              have k5 := hUm.keep hKu hNu
              have k6 := hKu.ext_of (H6.out.tr hI) (fun i hi => by rw [hi]; exact HUO.out.2.2)
              obtain ⟨wd, hwd, hwd'⟩ : ∃ wd, (W.setCell ⟨gO, 0, none⟩ (.bool false)).setCell ⟨gO, 1, none⟩ sm = wd ∧ wd = (W.setCell ⟨gO, 0, none⟩ (.bool false)).setCell ⟨gO, 1, none⟩ sm := ⟨_, rfl, rfl⟩
              rw [← hwd'] at k1 k2 k3 k4 k5 k6
              have J1 := hide k1; have J2 := hide k2; have J3 := hide k3; have J4 := hide k4; have J5 := hide k5; have J6 := hide k6
              clear k1 k2 k3 k4 k5 k6 hwd' hKu hNu hUm C hsm h5
              go_wp2_with fail
              go_roundw
              case rel =>
                refine ⟨i + 1, sm, by omega, by go_num, J1.out, J2.out, J3.out, J4.out, ?_, J6.out⟩
                have h := J5.out
                have e : Int.gcd (O : Int) y.num = ovrTo ys (i + 1) := by
                  show _ = Nat.gcd (ovrTo ys i) (ys.getD i 0).num.natAbs
                  rw [HOe.out, HYe.out]; rfl
                rw [← e]; exact h
              case measure => simp [intOf]; omega
        · obtain rfl : i = ps.length := by omega
          obtain ⟨O, hO⟩ : ∃ o, ovrTo ys ps.length = o := ⟨_, rfl⟩
          have hfull : stepMap f xs ps.length = ys := by rw [← HXl.out, stepMap_full, HYf.out]
          have hrow := HRow2.out
          rw [hfull] at hrow
          rw [hO] at HO2
          have HRow := hide hrow
          have HLO := hide (show RatLen ((O : Int) : Rat) 4398046511104 from RatLen.nat (by rw [← hO, ← HYs.out, ← HXs.out]; exact HC.out.ovr _ (Nat.le_refl _)) (by decide))
          have HOne := hide (show ((O : Int) : Rat) ≠ 0 by
            have h1 : O ≠ 0 := by rw [← hO, ← HYs.out, ← HXs.out]; exact HC.out.ne
            intro e
            have h2 : (((O : Int) : Rat)).num = (0 : Rat).num := by rw [e]
            rw [Rat.num_intCast] at h2
            exact h1 (by have h3 : (O : Int) = 0 := h2; omega))
          obtain ⟨f2, hf2⟩ : ∃ f : Rat → Rat, f = (· / ((O : Int) : Rat)) := ⟨_, rfl⟩
          obtain ⟨zs, hzs⟩ : ∃ zs, curs vs ps = zs := ⟨_, rfl⟩
          have hzsf : zs = ys.map f2 := by rw [← hzs, hf2, curs, HXs.out, HYs.out, lowest, HYl.out, hO]
          have hzlen : zs.length = ps.length := by rw [hzsf, List.length_map, HYl.out]
          have HZs := hide hzs; have HZf := hide hzsf; have HZl := hide hzlen; have HF2 := hide hf2; have HOe := hide hO
          clear hO hfull hrow hf2 hzs hzsf hzlen HRow2
          go_wp2_with fail
          go_loopw [90] (fun s wr => ∃ (i : Nat), i ≤ ps.length ∧ s = .int .i64 (i : Int) ∧ RRow wr gl cl (stepMap f2 ys i) ∧ Blk wr gO 110 #[.bool false, so] ∧ IsInt wr (.agg #[.bool false, so]) (O : Int) ∧ Ext w1 wr) (fun s _ => ps.length - (intOf s).toNat)
          case atStart => exact ⟨0, Nat.zero_le _, rfl, by rw [stepMap_zero]; exact HRow.out, HBO2.out, HO2.out, HE2.out⟩
          case round =>
            obtain ⟨i, hi, rfl, hrow, hbo, ho, hE⟩ := hrel
            have HRow2 := hide hrow; have HBO3 := hide hbo; have HO3 := hide ho; have HE3 := hide hE
            clear hrow hbo ho hE
            obtain ⟨w7, hw7⟩ : ∃ w0, w0 = wr := ⟨_, rfl⟩
            subst hw7
            by_cases hlt : i < ps.length
            · have hlx : i < (stepMap f2 ys i).length := by rw [stepMap_length, HYl.out]; exact hlt
              obtain ⟨⟨x0, x1, x2, x3⟩, ⟨a0, a1, a2, a3⟩, hxr⟩ := HRow2.out.at hlx
              rw [stepMap_get f2 ys i (by rw [HYl.out]; exact hlt)] at hxr
              obtain ⟨x, hx⟩ : ∃ x, ys.getD i 0 = x := ⟨_, rfl⟩
              rw [hx] at hxr
              have HXe := hide hx
              have HLx := hide (show RatLen x 4398046511104 by rw [← hx, ← HYs.out, ← HXs.out]; exact HC.out.sc i hlt)
              have hones := hxr.ones
              have p0 := st_any (hones x0 (by simp [r4cells]))
              have p1 := st_any (hones x1 (by simp [r4cells]))
              have p2 := st_any (hones x2 (by simp [r4cells]))
              have p3 := st_any (hones x3 (by simp [r4cells]))
              have HX0 := hide hxr
              clear hx hxr hones hlx
              go_wp2_with fail
              have hEb : Ext w7 (w7.alloc (.cells #[x0, x1, x2, x3] 113)) := (Below.refl _ _).alloc (Nat.le_refl _) _
              obtain ⟨gx, hgx⟩ : ∃ g, w7.heap.size = g := ⟨_, rfl⟩
              have HBx := hide (show Blk (w7.alloc (.cells #[x0, x1, x2, x3] 113)) gx 113 #[x0, x1, x2, x3] from Blk.new' _ _ _ _ hgx.symm)
              have HX := hide (HX0.out.ext hEb)
              have HRow := hide (HRow2.out.ext hEb); have HBO := hide (HBO3.out.ext hEb); have HO := hide (HO3.out.ext hEb); have HE4 := hide (HE3.out.tr hEb)
              rw [hgx]
              generalize w7.alloc (.cells #[x0, x1, x2, x3] 113) = wz at HBx HX HRow HBO HO HE4 ⊢
              clear hEb hgx a0 a1 a2 a3 p0 p1 p2 p3
              obtain ⟨Gs, hGs⟩ : ∃ Gs : List (Value → World → Prop), Gs = [(fun v _ => v = .slice (some ⟨gl, 0, none⟩) ps.length cl), (fun v _ => v = .int .i64 (i : Int)), (fun v _ => v = .agg #[x0, x1, x2, x3]), (fun v _ => v = .agg #[.bool false, so]), (fun v W => IsRat W v (((O : Int) : Rat))), (fun v W => IsRat W v (x / ((O : Int) : Rat))), (fun v _ => v = .pointer (some ⟨gl, i * 4, none⟩))] := ⟨_, rfl⟩
              have hst : Flow.Stay Ext Gs := by rw [hGs]; exact (Flow.Stay.cons (fun _ _ _ _ h => h) (Flow.Stay.cons (fun _ _ _ _ h => h) (Flow.Stay.cons (fun _ _ _ _ h => h) (Flow.Stay.cons (fun _ _ _ _ h => h) (Flow.Stay.cons (fun _ _ E _ h => IsRat.ext h E) (Flow.Stay.cons (fun _ _ E _ h => IsRat.ext h E) (Flow.Stay.cons (fun _ _ _ _ h => h) Flow.Stay.nil)))))))
              refine Flow.wp_region_flow 7 (by kernel_rfl) (fun W => Ext wz W) Gs (by kernel_rfl) (Ext.rfl' wz).drew ?flowsteps ?flowend
              case flowsteps =>
                refine ⟨?_, ?_, ?_, ?_, ?_, ?_, ?_, trivial⟩
                · refine Flow.step_val rfl fun a W hb hI hd => ?_
                  have h8 : a.eval (.tmp 8) = .slice (some ⟨gl, 0, none⟩) ps.length cl := hb.pre' 8 (by kernel_rfl)
                  exact ⟨_, rfl, by rw [hGs]; exact h8⟩
                · refine Flow.step_val rfl fun a W hb hI hd => ?_
                  have h18 : a.eval (.tmp 18) = .int .i64 (i : Int) := hb.pre' 18 (by kernel_rfl)
                  exact ⟨_, rfl, by rw [hGs]; exact h18⟩
                · refine Flow.step_val rfl fun a W hb hI hd => ?_
                  have h19 : a.eval (.tmp 19) = .pointer (some ⟨gx, 0, none⟩) := hb.pre' 19 (by kernel_rfl)
                  exact ⟨_, run_load4 h19 (by have h := (HBx.out.ext hI).cell 0; exact h) (by have h := (HBx.out.ext hI).cell 1; exact h) (by have h := (HBx.out.ext hI).cell 2; exact h) (by have h := (HBx.out.ext hI).cell 3; exact h), by rw [hGs]; rfl⟩
                · refine Flow.step_val rfl fun a W hb hI hd => ?_
                  have h10 : a.eval (.tmp 10) = .pointer (some ⟨gO, 0, none⟩) := hb.pre' 10 (by kernel_rfl)
                  exact ⟨_, run_load2 h10 (by have h := (HBO.out.ext hI).cell 0; exact h) (by have h := (HBO.out.ext hI).cell 1; exact h), by rw [hGs]; rfl⟩
                · refine Flow.step_call rfl fun a W hb hI hd => ?_
                  have h98 : a.eval (.tmp 98) = .agg #[.bool false, so] := by have h := hd _ (Array.mem_of_getElem? (i := 0) rfl) rfl; rw [hGs] at h; exact h
                  refine ⟨67, #[a.eval (.tmp 98)], Flow.run_enter (enters_of Tryz.func67 (by kernel_rfl) rfl) (by simp), ?_⟩
                  rw [h98]
                  refine (fromInt_any _ _ W (HO.out.ext hI)).mono ?_
                  rintro e w' ⟨v, rfl, hm, hE⟩
                  exact ⟨v, rfl, by rw [hGs]; exact hm, hI.tr hE, hst.at hE⟩
                · refine Flow.step_call rfl fun a W hb hI hd => ?_
                  have h97 : a.eval (.tmp 97) = .agg #[x0, x1, x2, x3] := by have h := hd _ (Array.mem_of_getElem? (i := 0) rfl) rfl; rw [hGs] at h; exact h
                  have h99 : (fun v W => IsRat W v (((O : Int) : Rat))) (a.eval (.tmp 99)) W := by have h := hd _ (Array.mem_of_getElem? (i := 1) rfl) rfl; rw [hGs] at h; exact h
                  refine ⟨69, #[a.eval (.tmp 97), a.eval (.tmp 99)], Flow.run_enter (enters_of Tryz.func69 (by kernel_rfl) rfl) (by simp), ?_⟩
                  rw [h97]
                  refine (div_rat _ _ x ((O : Int) : Rat) W (HX.out.ext hI) h99 HOne.out HLx.out HLO.out).mono ?_
                  rintro e w' ⟨v, rfl, hm, hE⟩
                  exact ⟨v, rfl, by rw [hGs]; exact hm, hI.tr hE, hst.at hE⟩
                · refine Flow.step_val rfl fun a W hb hI hd => ?_
                  have h95 : a.eval (.tmp 95) = .slice (some ⟨gl, 0, none⟩) ps.length cl := by have h := hd _ (Array.mem_of_getElem? (i := 0) rfl) rfl; rw [hGs] at h; exact h
                  have h96 : a.eval (.tmp 96) = .int .i64 (i : Int) := by have h := hd _ (Array.mem_of_getElem? (i := 1) rfl) rfl; rw [hGs] at h; exact h
                  exact ⟨_, run_index105 h95 h96 hlt, by rw [hGs]; rfl⟩
              case flowend =>
                rw [hGs]
                refine fun W hI v0 h0 v1 h1 v2 h2 v3 h3 v4 h4 v5 h5 v6 h6 => ?_
                obtain rfl : .slice (some ⟨gl, 0, none⟩) ps.length cl = v0 := Eq.symm h0; clear h0
                obtain rfl : .int .i64 (i : Int) = v1 := Eq.symm h1; clear h1
                obtain rfl : .agg #[x0, x1, x2, x3] = v2 := Eq.symm h2; clear h2
                obtain rfl : .agg #[.bool false, so] = v3 := Eq.symm h3; clear h3
                replace h4 : (fun v W => IsRat W v (((O : Int) : Rat))) v4 W := h4
                replace h5 : (fun v W => IsRat W v (x / ((O : Int) : Rat))) v5 W := h5
                obtain rfl : .pointer (some ⟨gl, i * 4, none⟩) = v6 := Eq.symm h6; clear h6
                clear hst hGs
                show wpList _ _ _ _ _ _
                simp only [List.drop_succ_cons, List.drop_zero, Act.put, List.setIfInBounds_toArray, List.set_cons_zero, List.set_cons_succ]
                obtain ⟨y0, y1, y2, y3, rfl, HYr, p0, p1, p2, p3⟩ := h5.cells4
                clear h5 h4
                replace p0 := st_any p0
                replace p1 := st_any p1
                replace p2 := st_any p2
                replace p3 := st_any p3
                have C := HRow.out.ext hI
                have hlx : i < (stepMap f2 ys i).length := by rw [stepMap_length, HYl.out]; exact hlt
                obtain ⟨_, ⟨a0, a1, a2, a3⟩, _⟩ := C.at hlx
                have f0 := C.frozen (i * 4)
                have f1 := C.frozen (i * 4 + 1)
                have f2' := C.frozen (i * 4 + 2)
                have f3 := C.frozen (i * 4 + 3)
                have hK : Keep (fun b => b = gl) W (rput4 W gl (i * 4) (y0, y1, y2, y3)) := Keep.rput4 (S := fun b => b = gl) (Keep.refl _ W) (.inl rfl) _
                have hN : NoDigits W (fun b => b = gl) := fun b hb => ⟨113, by rw [hb]; exact C.ty, by decide⟩
                have k1 := C.put hlx HYr.out
                have k4 := (HBO.out.ext hI).keep hK (fun e => HNe.out.2 e.symm)
                have k5 := (HO.out.ext hI).keep hK hN
                have k6 := hK.ext_of (HE4.out.tr hI) (fun b hb => by rw [hb]; exact hgl)
                obtain ⟨w8, hw8, hw8'⟩ : ∃ w8, (((W.setCell ⟨gl, i * 4, none⟩ y0).setCell ⟨gl, i * 4 + 1, none⟩ y1).setCell ⟨gl, i * 4 + 2, none⟩ y2).setCell ⟨gl, i * 4 + 3, none⟩ y3 = w8 ∧ w8 = rput4 W gl (i * 4) (y0, y1, y2, y3) := ⟨_, rfl, rfl⟩
                rw [← hw8'] at k1 k4 k5 k6
                have hsm : (stepMap f2 ys i).set i (x / ((O : Int) : Rat)) = stepMap f2 ys (i + 1) := by rw [← stepMap_succ f2 ys i (by rw [HYl.out]; exact hlt), HXe.out, HF2.out]
                rw [hsm] at k1
                have H1 := hide k1; have H4 := hide k4; have H5 := hide k5; have H6 := hide k6
                clear k1 k4 k5 k6 hw8' hK hN C hsm
                go_wp2_with fail
                go_roundw
                case rel => exact ⟨i + 1, by omega, by go_num, H1.out, H4.out, H5.out, H6.out⟩
                case measure => simp [intOf]; omega
            · obtain rfl : i = ps.length := by omega
              have hfull : stepMap f2 ys ps.length = zs := by rw [← HYl.out, stepMap_full, HZf.out]
              have hrow := HRow2.out
              rw [hfull] at hrow
              have hrats := hrow.rats (by rw [HZl.out]; omega)
              rw [HZl.out] at hrats
              have HNm := hide (nums_any _ zs w7 hrats (fun q hq => by
                obtain ⟨j, hj, rfl⟩ := List.getElem_of_mem hq
                have h := HC.out.fin j (by rw [← HZl.out]; exact hj)
                rw [HZs.out, List.getD, List.getElem?_eq_getElem hj] at h
                exact h) (by rw [HZl.out]; omega))
              clear hfull hrow hrats
              go_wp2_with fail
              refine HNm.out.mono ?_
              rintro e we ⟨un, rfl, hs, Ee⟩
              have HSt := hide hs
              have HEe := hide (HE0.out.tr (HE3.out.tr Ee))
              clear hs Ee HNm
              go_wp2_with fail
              go_ret2
              exact ⟨_, by rw [HZs.out]; rfl, by rw [HZs.out]; exact HSt.out, HEe.out⟩

end Go.Proofs.YtncabodphjkkfaaGreat
