/- The rule for a region whose order Go leaves open, with a word on which operations are done: a store that may come ahead of an operation that it does not wait for. Conditions: none (a lemma over any program). -/
import Derived.Test.YtncabodphjkkfaaGreatFlow
namespace Go.Flow

section
variable {P : Program} {l : List Oper} {n : Nat} {a0 : Act} {I : World → Prop} {Gs : List (Value → World → Prop)} {Q : Exit → Act → World → Prop} {R : Nat → Nat → Value → Value → Prop} {X : Array Bool → Act → World → Prop} {E : World → World → Prop}

def StepX (P : Program) (l : List Oper) (n : Nat) (a0 : Act) (I : World → Prop) (Gs : List (Value → World → Prop)) (R : Nat → Nat → Value → Value → Prop) (X : Array Bool → Act → World → Prop) (Q : Exit → Act → World → Prop) (i : Nat) (o : Oper) : Prop :=
  ∀ listed a w, Base l n a0 a → I w → X listed a w → listed.getD i true = false → (∀ e ∈ o.after, Region.binds .any e = true → listed.getD e.on false = true) → (∀ e ∈ o.after, Region.binds .any e = true → gAt Gs e.on (slotV l a e.on) w) →
    if Region.wanted o (yielded l.toArray a.tmps) then
      o.wp P a w (fun a' w' => ∃ v, a' = a.put o.dst v ∧ gAt Gs i (resOf o v) w' ∧ I w' ∧ (∀ j, j < n → listed.getD j false = true → ∀ u, gAt Gs j u w → gAt Gs j u w') ∧ Fits n Gs R i (resOf o v) w ∧ X (listed.setIfInBounds i true) a' w') Q
    else gAt Gs i undef w ∧ Fits n Gs R i undef w ∧ X (listed.setIfInBounds i true) (a.put o.dst undef) w

def StepsX (P : Program) (l : List Oper) (n : Nat) (a0 : Act) (I : World → Prop) (Gs : List (Value → World → Prop)) (R : Nat → Nat → Value → Value → Prop) (X : Array Bool → Act → World → Prop) (Q : Exit → Act → World → Prop) : List Oper → Nat → Prop
  | [], _ => True
  | o :: rest, i => StepX P l n a0 I Gs R X Q i o ∧ StepsX P l n a0 I Gs R X Q rest (i + 1)

theorem StepsX.at : ∀ (r : List Oper) (i : Nat), StepsX P l n a0 I Gs R X Q r i → ∀ j o, r[j]? = some o → StepX P l n a0 I Gs R X Q (i + j) o
  | [], _, _, _, _, h => by simp at h
  | o :: rest, i, hs, 0, o', h => by
    simp at h; subst h; exact hs.1
  | o :: rest, i, hs, j + 1, o', h => by
    have := StepsX.at rest (i + 1) hs.2 j o' (by simpa using h)
    rw [show i + (j + 1) = i + 1 + j by omega]
    exact this

structure InvX (l : List Oper) (n : Nat) (a0 : Act) (I : World → Prop) (Gs : List (Value → World → Prop)) (R : Nat → Nat → Value → Value → Prop) (X : Array Bool → Act → World → Prop) (listed : Array Bool) (a : Act) (w : World) : Prop where
  head : HeadInv .any l.toArray n listed
  base : Base l n a0 a
  inv : I w
  good : ∀ i, i < n → listed.getD i false = true → gAt Gs i (slotV l a i) w
  pair : ∀ i j, i < n → j < n → i ≠ j → listed.getD i false = true → listed.getD j false = true → R i j (slotV l a i) (slotV l a j)
  ext : X listed a w

theorem any_flowX (hok : okB l n a0.tmps.size = true) (hs : StepsX P l n a0 I Gs R X Q (l.take n) 0)
    (hend : ∀ w, I w → End Gs (fun a => (∀ i j, i < n → j < n → i ≠ j → R i j (slotV l a i) (slotV l a j)) → X (doneHead n l.length) a w → wpList P l.toArray Q (l.drop n) a w) w (l.take n) 0 a0) :
    ∀ (k : Nat) (listed : Array Bool) (a : Act) (w : World), unlisted listed n ≤ k → InvX l n a0 I Gs R X listed a w → wpAny P .any l.toArray Q (unlisted listed n + (l.length - n)) listed a w := by
  simp only [okB, Bool.and_eq_true, decide_eq_true_eq] at hok
  obtain ⟨⟨⟨⟨hn, hd⟩, hb⟩, hsc⟩, hseq⟩ := hok
  intro k
  induction k with
  | zero =>
    intro listed a w hk inv
    have h0 : unlisted listed n = 0 := by omega
    have hall : ∀ i, i < n → listed.getD i true = true := by
      intro i hi
      cases hc : listed.getD i true with
      | true => rfl
      | false =>
        have := unlisted_set hi hc
        omega
    have hl := done_eq inv.head hall
    rw [h0, Nat.zero_add]
    have hlen : (l.drop n).length = l.length - n := by simp
    have hKK := End.of_slots (l := l) (b := a) (l.take n) 0 a0 (fun j hj => by
      have hjn : j < n := by simp at hj; omega
      rw [Nat.zero_add]
      refine inv.good j hjn ?_
      have := hall j hjn
      cases hc : listed.getD j false with
      | true => rfl
      | false => rw [getD_in (by rw [inv.head.size]; simp; omega) hc] at this; cases this) (hend w inv.inv)
    rw [putAll_eq inv.base hd hn] at hKK
    have hls : ∀ j, j < n → listed.getD j false = true := by
      intro j hjn
      have := hall j hjn
      cases hc : listed.getD j false with
      | true => rfl
      | false => rw [getD_in (by rw [inv.head.size]; simp; omega) hc] at this; cases this
    have hKK := hKK (fun i j hi hj hij => inv.pair i j hi hj hij (hls i hi) (hls j hj)) (by rw [← hl]; exact inv.ext)
    have := wpAny_of_seq (md := .any) (Q' := Q) (ops := l.toArray) (l.drop n) n listed a w (fun j => by simp [List.getElem?_drop]) (by rw [hlen, hl]; exact hseq) hKK
    rwa [hlen] at this
  | succ k ih =>
    intro listed a w hk inv
    by_cases h0 : unlisted listed n = 0
    · exact ih listed a w (by omega) inv
    · have hex : ∃ i, i < n ∧ listed.getD i true = false := by
        unfold unlisted at h0
        cases hf : (List.range n).filter (fun i => !listed.getD i true) with
        | nil => rw [hf] at h0; exact absurd rfl h0
        | cons i r =>
          have : i ∈ (List.range n).filter (fun i => !listed.getD i true) := by rw [hf]; exact List.mem_cons_self ..
          rw [List.mem_filter, List.mem_range] at this
          exact ⟨i, this.1, by simpa using this.2⟩
      obtain ⟨i0, hi0, hu0⟩ := hex
      obtain ⟨m, hm⟩ : ∃ m, unlisted listed n = m + 1 := ⟨unlisted listed n - 1, by omega⟩
      rw [hm, show m + 1 + (l.length - n) = (m + (l.length - n)) + 1 by omega]
      refine ⟨fun hr => absurd hr (ready_some hb hn inv.head i0 hi0 hu0), fun i hi => ?_⟩
      have hin : i < n := by
        rcases Nat.lt_or_ge i n with h | h
        · exact h
        · simp only [Bool.or_eq_true, beq_iff_eq] at hsc
          rcases hsc with he | hsc
          · obtain ⟨_, o, ho, _⟩ := mem_ready.1 hi
            have := (Array.getElem?_eq_some_iff.1 ho).1
            simp at this
            omega
          · simp only [Bool.and_eq_true] at hsc
            have hnl : n < l.toArray.size := by
              obtain ⟨_, o, ho, _⟩ := mem_ready.1 hi
              have := (Array.getElem?_eq_some_iff.1 ho).1
              simp at this ⊢
              omega
            exact absurd hi (tail_waits hsc.1 hsc.2 hnl inv.head _ i0 rfl hi0 hu0 i h)
      obtain ⟨hun, o, ho, hall⟩ := mem_ready.1 hi
      have hol : l[i]? = some o := by simpa using ho
      have hst := StepsX.at _ _ hs i o (by rw [List.getElem?_take_of_lt hin]; exact hol)
      rw [Nat.zero_add] at hst
      have hst' := hst listed a w inv.base inv.inv inv.ext hun (fun e he hbd => hall e he hbd) (fun e he hbd => by
        have h1 := hall e he hbd
        have h2 := List.all_eq_true.1 hb i (List.mem_range.2 hin)
        simp only [hol] at h2
        have h3 := Array.all_eq_true'.1 h2 e he
        simp only [hbd, Bool.not_true, Bool.false_or, decide_eq_true_eq] at h3
        exact inv.good e.on (by omega) h1)
      have hlt := unlisted_set hin hun
      have hds : dstsB l n a.tmps.size = true := by rw [inv.base.size]; exact hd
      have next : ∀ (v : Value) (w' : World), gAt Gs i (resOf o v) w' → I w' → (∀ j, j < n → listed.getD j false = true → ∀ u, gAt Gs j u w → gAt Gs j u w') → Fits n Gs R i (resOf o v) w → X (listed.setIfInBounds i true) (a.put o.dst v) w' →
          wpAny P .any l.toArray Q (m + (l.length - n)) (listed.setIfInBounds i true) (a.put o.dst v) w' := by
        intro v w' hg hI hmono hfit hX
        have hinv : InvX l n a0 I Gs R X (listed.setIfInBounds i true) (a.put o.dst v) w' := by
          refine ⟨inv.head.set hi hin, inv.base.put hin hol v, hI, fun j hj hlj => ?_, fun p q hp hq hpq hlp hlq => ?_, hX⟩
          by_cases hij : i = j
          · subst hij
            rw [slotV_put_self (v := v) hol hds hin]; exact hg
          · rw [slotV_put_ne hol hds hin hj hij]
            rw [getD_set_ne false hij] at hlj
            exact hmono j hj hlj _ (inv.good j hj hlj)
          · by_cases hip : i = p
            · subst hip
              rw [slotV_put_self (v := v) hol hds hin, slotV_put_ne hol hds hin hq hpq]
              rw [getD_set_ne false hpq] at hlq
              exact (hfit q hq (Ne.symm hpq) _ (inv.good q hq hlq)).1
            · by_cases hiq : i = q
              · subst hiq
                rw [slotV_put_self (v := v) hol hds hin, slotV_put_ne hol hds hin hp hip]
                rw [getD_set_ne false hip] at hlp
                exact (hfit p hp hpq _ (inv.good p hp hlp)).2
              · rw [slotV_put_ne hol hds hin hp hip, slotV_put_ne hol hds hin hq hiq]
                rw [getD_set_ne false hip] at hlp
                rw [getD_set_ne false hiq] at hlq
                exact inv.pair p q hp hq hpq hlp hlq
        have h1 := ih (listed.setIfInBounds i true) (a.put o.dst v) w' (by omega) hinv
        -- the count may have fallen by more than one in no case: show it is m
        have hcnt : unlisted (listed.setIfInBounds i true) n = m := by
          have hge : unlisted listed n ≤ unlisted (listed.setIfInBounds i true) n + 1 := by
            unfold unlisted
            have aux : ∀ (r : List Nat), r.Nodup → (r.filter fun i => !listed.getD i true).length ≤ (r.filter fun x => !(listed.setIfInBounds i true).getD x true).length + 1 := by
              intro r
              induction r with
              | nil => intro _; simp
              | cons x r ih2 =>
                intro hnd
                rw [List.nodup_cons] at hnd
                by_cases hxi : i = x
                · subst hxi
                  have e : (r.filter fun x => !(listed.setIfInBounds i true).getD x true) = r.filter fun i => !listed.getD i true := by
                    apply List.filter_congr
                    intro y hy
                    have : i ≠ y := fun e => hnd.1 (e ▸ hy)
                    rw [getD_set_ne true this]
                  rw [List.filter_cons, List.filter_cons, e]
                  split <;> split <;> simp <;> omega
                · have h2 := ih2 hnd.2
                  rw [List.filter_cons, List.filter_cons, getD_set_ne true hxi]
                  split
                  · simp only [List.length_cons]; omega
                  · exact h2
            exact aux _ List.nodup_range
          omega
        rwa [hcnt] at h1
      unfold wpOp
      simp only [ho]
      split
      · rename_i hwt
        rw [if_pos hwt] at hst'
        exact .inl (Oper.wp_mono (fun a' w' ⟨v, he, hg, hI, hmono, hfit, hX⟩ => by subst he; exact next v w' hg hI hmono hfit hX) hst')
      · rename_i hwt
        rw [if_neg hwt] at hst'
        have e0 : resOf o undef = undef := by unfold resOf; split <;> rfl
        exact next undef w (by rw [e0]; exact hst'.1) inv.inv (fun _ _ _ _ h => h) (by rw [e0]; exact hst'.2.1) hst'.2.2


/-- What an operation that is none of those that X speaks of does to X. -/
def KeepX (E : World → World → Prop) (X : Array Bool → Act → World → Prop) (i : Nat) (o : Oper) : Prop := ∀ listed a w v w', E w w' → X listed a w → X (listed.setIfInBounds i true) (a.put o.dst v) w'

theorem stepX_val {i : Nat} {o : Oper} (hg : o.guard = none) (hf : ∀ j v u, j ≠ i → R i j v u ∧ R j i u v) (hE : ∀ w, E w w) (hk : KeepX E X i o)
    (h : ∀ a w, Base l n a0 a → I w → (∀ e ∈ o.after, Region.binds .any e = true → gAt Gs e.on (slotV l a e.on) w) → ∃ v, (execOp a.eval o).run P w = .ok (.value v) w ∧ gAt Gs i (resOf o v) w) :
    StepX P l n a0 I Gs R X Q i o := by
  intro listed a w hb hI hX _ _ hd
  have hw : Region.wanted o (yielded l.toArray a.tmps) = true := by simp [Region.wanted, hg]
  rw [if_pos hw]
  obtain ⟨v, hr, hv⟩ := h a w hb hI hd
  unfold Oper.wp
  rw [hr]
  exact ⟨v, rfl, hv, hI, fun _ _ _ _ h => h, fun j _ hj u _ => hf j _ u hj, hk _ _ _ _ _ (hE w) hX⟩
theorem stepX_call {i : Nat} {o : Oper} (hg : o.guard = none) (hf : ∀ j v u, j ≠ i → R i j v u ∧ R j i u v) (hst : Stay E Gs) (hk : KeepX E X i o)
    (h : ∀ a w, Base l n a0 a → I w → (∀ e ∈ o.after, Region.binds .any e = true → gAt Gs e.on (slotV l a e.on) w) → ∃ f args, (execOp a.eval o).run P w = .ok (.enter f args) w ∧
      Calls P f args w (fun e w' => ∃ v, e = .returned v ∧ gAt Gs i (resOf o v) w' ∧ I w' ∧ E w w')) :
    StepX P l n a0 I Gs R X Q i o := by
  intro listed a w hb hI hX _ _ hd
  have hw : Region.wanted o (yielded l.toArray a.tmps) = true := by simp [Region.wanted, hg]
  rw [if_pos hw]
  obtain ⟨f, args, hr, hc⟩ := h a w hb hI hd
  unfold Oper.wp
  rw [hr]
  exact hc.mono fun e w' ⟨v, he, hv, hI', hm⟩ => by subst he; exact ⟨v, rfl, hv, hI', fun j hj _ => hst.at hm j hj, fun j _ hj u _ => hf j _ u hj, hk _ _ _ _ _ hm hX⟩
/-- An operation that turns the world, or that X speaks of. -/
theorem stepX_to {i : Nat} {o : Oper} (hg : o.guard = none)
    (h : ∀ listed a w, Base l n a0 a → I w → X listed a w → listed.getD i true = false → (∀ e ∈ o.after, Region.binds .any e = true → listed.getD e.on false = true) → (∀ e ∈ o.after, Region.binds .any e = true → gAt Gs e.on (slotV l a e.on) w) →
      ∃ v w', ((execOp a.eval o).run P w = .ok (.value v) w' ∨ ((execOp a.eval o).run P w = .ok .skip w' ∧ v = undef)) ∧ gAt Gs i (resOf o v) w' ∧ I w' ∧ (∀ j, j < n → listed.getD j false = true → ∀ u, gAt Gs j u w → gAt Gs j u w') ∧ Fits n Gs R i (resOf o v) w ∧ X (listed.setIfInBounds i true) (a.put o.dst v) w') :
    StepX P l n a0 I Gs R X Q i o := by
  intro listed a w hb hI hX hl ha hd
  have hw : Region.wanted o (yielded l.toArray a.tmps) = true := by simp [Region.wanted, hg]
  rw [if_pos hw]
  obtain ⟨v, w', hr, hv, hI', hm, hfit, hX'⟩ := h listed a w hb hI hX hl ha hd
  unfold Oper.wp
  rcases hr with hr | ⟨hr, rfl⟩
  · rw [hr]; exact ⟨v, rfl, hv, hI', hm, hfit, hX'⟩
  · rw [hr]; exact ⟨undef, rfl, hv, hI', hm, hfit, hX'⟩

theorem wp_region_flowX {id : Nat} {w : World} (n : Nat) (hm : P.follows .mixedOrders = true) (I : World → Prop) (R : Nat → Nat → Value → Value → Prop) (Gs : List (Value → World → Prop)) (X : Array Bool → Act → World → Prop) (hok : okB l n a0.tmps.size = true)
    (hI : I { w with drawn := w.drawn + 1 }) (hX : X (Array.replicate l.length false) a0 { w with drawn := w.drawn + 1 }) (hs : StepsX P l n a0 I Gs R X Q (l.take n) 0)
    (hend : ∀ w, I w → End Gs (fun a => (∀ i j, i < n → j < n → i ≠ j → R i j (slotV l a i) (slotV l a j)) → X (doneHead n l.length) a w → wpList P l.toArray Q (l.drop n) a w) w (l.take n) 0 a0) : (Code.region id l.toArray true).wp P Q a0 w := by
  refine wp_region_any hm ?_
  have hn : n ≤ l.length := by
    simp only [okB, Bool.and_eq_true, decide_eq_true_eq] at hok
    exact hok.1.1.1.1
  have hu : unlisted (Array.replicate l.toArray.size false) n = n := by
    unfold unlisted
    rw [List.filter_eq_self.2]
    · simp
    · intro i hi
      have : i < l.length := by have := List.mem_range.1 hi; omega
      simp [this]
  have inv : InvX l n a0 I Gs R X (Array.replicate l.toArray.size false) a0 { w with drawn := w.drawn + 1 } :=
    ⟨⟨by simp, fun j oj _ hl => (by rw [getD_replicate_false] at hl; cases hl), fun t _ ht => getD_in (by simpa using ht) (getD_replicate_false _ _)⟩,
     ⟨rfl, rfl, fun _ _ => rfl⟩, hI, fun i _ h => (by rw [getD_replicate_false] at h; cases h), fun i _ _ _ _ h => (by rw [getD_replicate_false] at h; cases h), by simpa using hX⟩
  have := any_flowX hok hs hend n _ _ _ (by rw [hu]; exact Nat.le_refl _) inv
  rw [hu] at this
  rw [show l.toArray.size = n + (l.length - n) by simp; omega]
  have e : Array.replicate (n + (l.length - n)) false = Array.replicate l.toArray.size false := by
    congr 1; simp; omega
  rw [e]
  exact this


/-- Two blocks are made, by operations p and q, into slots s and r; store t fills the first. -/
def TwoX (p s q r t : Nat) (Z B : Nat → World → Prop) (listed : Array Bool) (a : Act) (w : World) : Prop :=
  (listed.getD t false = true → listed.getD p false = true) ∧
  (listed.getD p false = true → ∃ g, a.tmps.getD s undef = .pointer (some ⟨g, 0, none⟩) ∧ g < w.heap.size ∧ (listed.getD t false = false → Z g w) ∧ (listed.getD t false = true → B g w)) ∧
  (listed.getD q false = true → ∃ g, a.tmps.getD r undef = .pointer (some ⟨g, 0, none⟩) ∧ g < w.heap.size ∧ Z g w ∧ (listed.getD p false = true → a.tmps.getD s undef ≠ .pointer (some ⟨g, 0, none⟩)))
structure TwoE (E : World → World → Prop) (Z B : Nat → World → Prop) : Prop where
  size : ∀ w w', E w w' → w.heap.size ≤ w'.heap.size
  zero : ∀ g w w', E w w' → Z g w → Z g w'
  full : ∀ g w w', E w w' → B g w → B g w'
theorem TwoX.keep {p s q r t : Nat} {Z B : Nat → World → Prop} (h : TwoE E Z B) {i : Nat} {o : Oper} (hp : i ≠ p) (hq : i ≠ q) (ht : i ≠ t) (hd : o.dst ≠ some s) (he : o.dst ≠ some r) : KeepX E (TwoX p s q r t Z B) i o := by
  intro listed a w v w' hE hX
  obtain ⟨h1, h2, h3⟩ := hX
  unfold TwoX
  rw [getD_set_ne false hp, getD_set_ne false hq, getD_set_ne false ht, getD_put_ne hd, getD_put_ne he]
  refine ⟨h1, fun hl => ?_, fun hl => ?_⟩
  · obtain ⟨g, hg, hs, hz, hb⟩ := h2 hl
    exact ⟨g, hg, Nat.lt_of_lt_of_le hs (h.size _ _ hE), fun k => h.zero _ _ _ hE (hz k), fun k => h.full _ _ _ hE (hb k)⟩
  · obtain ⟨g, hg, hs, hz, hne⟩ := h3 hl
    exact ⟨g, hg, Nat.lt_of_lt_of_le hs (h.size _ _ hE), h.zero _ _ _ hE hz, hne⟩
theorem getD_lt {listed : Array Bool} {i : Nat} (h : listed.getD i true = false) : i < listed.size := by
  rcases Nat.lt_or_ge i listed.size with h' | h'
  · exact h'
  · simp [Array.getElem?_eq_none h'] at h
theorem getD_set_self {listed : Array Bool} {i : Nat} (h : listed.getD i true = false) : (listed.setIfInBounds i true).getD i false = true := by
  simp [getD_lt h]
theorem getD_ff {listed : Array Bool} {i : Nat} (h : listed.getD i true = false) : listed.getD i false = false := by
  have := getD_lt h
  simpa [this] using h
/-- The first block is made. -/
theorem TwoX.make1 {p s q r t : Nat} {Z B : Nat → World → Prop} (h : TwoE E Z B) {listed : Array Bool} {a : Act} {w w' : World} (hX : TwoX p s q r t Z B listed a w) (hl : listed.getD p true = false) (hE : E w w') (hs : s < a.tmps.size) (hsr : s ≠ r) (hpq : p ≠ q) (hpt : p ≠ t)
    (hz : Z w.heap.size w') (hsz : w.heap.size < w'.heap.size) : TwoX p s q r t Z B (listed.setIfInBounds p true) (a.put (some s) (.pointer (some ⟨w.heap.size, 0, none⟩))) w' := by
  obtain ⟨h1, h2, h3⟩ := hX
  have ht : listed.getD t false = false := by
    cases hc : listed.getD t false with
    | false => rfl
    | true => rw [getD_ff hl] at h1; exact absurd (h1 hc) (by decide)
  unfold TwoX
  rw [getD_set_ne false hpq, getD_set_ne false hpt, getD_set_self hl, ht, getD_put_self hs, getD_put_ne (a := a) (dst := some s) (s := r) (by intro e; injection e with e; exact hsr e)]
  refine ⟨fun h => (by cases h), fun _ => ⟨_, rfl, hsz, fun _ => hz, fun h => (by cases h)⟩, fun hq => ?_⟩
  obtain ⟨g, hg, hgs, hzz, _⟩ := h3 hq
  refine ⟨g, hg, Nat.lt_of_lt_of_le hgs (h.size _ _ hE), h.zero _ _ _ hE hzz, fun _ e => ?_⟩
  injection e with e; injection e with e; injection e with e
  omega
/-- The second block is made. -/
theorem TwoX.make2 {p s q r t : Nat} {Z B : Nat → World → Prop} (h : TwoE E Z B) {listed : Array Bool} {a : Act} {w w' : World} (hX : TwoX p s q r t Z B listed a w) (hl : listed.getD q true = false) (hE : E w w') (hs : r < a.tmps.size) (hsr : s ≠ r) (hpq : p ≠ q) (hqt : q ≠ t)
    (hz : Z w.heap.size w') (hsz : w.heap.size < w'.heap.size) : TwoX p s q r t Z B (listed.setIfInBounds q true) (a.put (some r) (.pointer (some ⟨w.heap.size, 0, none⟩))) w' := by
  obtain ⟨h1, h2, h3⟩ := hX
  unfold TwoX
  rw [getD_set_ne false (Ne.symm hpq), getD_set_ne false hqt, getD_set_self hl, getD_put_self hs, getD_put_ne (a := a) (dst := some r) (s := s) (by intro e; injection e with e; exact hsr e.symm)]
  refine ⟨h1, fun hl => ?_, fun _ => ⟨_, rfl, hsz, hz, fun hp e => ?_⟩⟩
  · obtain ⟨g, hg, hs, hz, hb⟩ := h2 hl
    exact ⟨g, hg, Nat.lt_of_lt_of_le hs (h.size _ _ hE), fun k => h.zero _ _ _ hE (hz k), fun k => h.full _ _ _ hE (hb k)⟩
  · obtain ⟨g, hg, hgs, _⟩ := h2 hp
    rw [hg] at e
    injection e with e; injection e with e; injection e with e
    omega
/-- The first block is filled. -/
theorem TwoX.fill {p s q r t : Nat} {Z B : Nat → World → Prop} {listed : Array Bool} {a : Act} {w w' : World} (hX : TwoX p s q r t Z B listed a w) (hl : listed.getD t true = false) (hpl : listed.getD p false = true) (hpt : p ≠ t) (hqt : q ≠ t)
    {g : Nat} (hg : a.tmps.getD s undef = .pointer (some ⟨g, 0, none⟩)) (hsz : w.heap.size = w'.heap.size) (hb : B g w') (hz : ∀ k, k ≠ g → Z k w → Z k w') (v : Value) : TwoX p s q r t Z B (listed.setIfInBounds t true) (a.put none v) w' := by
  obtain ⟨h1, h2, h3⟩ := hX
  unfold TwoX
  rw [getD_set_ne false (Ne.symm hpt), getD_set_ne false (Ne.symm hqt), getD_set_self hl]
  obtain ⟨g0, hg0, hs0, _⟩ := h2 hpl
  have e : g = g0 := by
    rw [hg] at hg0
    injection hg0 with e; injection e with e; injection e
  refine ⟨fun _ => hpl, fun _ => ⟨g, hg, by omega, fun h => (by cases h), fun _ => hb⟩, fun hq => ?_⟩
  obtain ⟨k, hk, hks, hkz, hne⟩ := h3 hq
  exact ⟨k, hk, by omega, hz k (fun e => hne hpl (by rw [hg, e])) hkz, hne⟩
end
end Go.Flow
