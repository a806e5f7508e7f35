/- A rule for a region whose order Go leaves open: each operation of its head is proved once, whatever was carried out before it; its tail is forced. Conditions: none (a lemma over any program). -/
import Derived.StillTail
import Derived.WalkKit
namespace Go.Flow

def gAt (Gs : List (Value → World → Prop)) (i : Nat) (v : Value) (w : World) : Prop :=
  match Gs[i]? with
  | some g => g v w
  | none => True

def slotV (l : List Oper) (a : Act) (i : Nat) : Value :=
  match (l[i]?).bind (·.dst) with
  | some d => a.tmps.getD d undef
  | none => undef

structure Base (l : List Oper) (n : Nat) (a0 a : Act) : Prop where
  defers : a.defers = a0.defers
  size : a.tmps.size = a0.tmps.size
  pre : ∀ s, (∀ i, i < n → (l[i]?).bind (·.dst) ≠ some s) → a.tmps.getD s undef = a0.tmps.getD s undef

section
variable {P : Program} {l : List Oper} {n : Nat} {a0 : Act} {I : World → Prop} {Gs : List (Value → World → Prop)} {Q : Exit → Act → World → Prop} {R : Nat → Nat → Value → Value → Prop}

/-- What an operation leaves for those behind it: its value, where it writes a slot. -/
def resOf (o : Oper) (v : Value) : Value := match o.dst with | some _ => v | none => undef

/-- Nothing is asked of two values together. -/
def anyR : Nat → Nat → Value → Value → Prop := fun _ _ _ _ => True
/-- A new value stands in the relation to all those that are there. -/
def Fits (n : Nat) (Gs : List (Value → World → Prop)) (R : Nat → Nat → Value → Value → Prop) (i : Nat) (v : Value) (w : World) : Prop := ∀ j, j < n → j ≠ i → ∀ u, gAt Gs j u w → R i j v u ∧ R j i u v
theorem Fits.any {i : Nat} {v : Value} {w : World} : Fits n Gs anyR i v w := fun _ _ _ _ _ => ⟨trivial, trivial⟩

/-- What is asked of one operation of the head: carried out in whatever frame and world, its forerunners being done. -/
def Step (P : Program) (l : List Oper) (n : Nat) (a0 : Act) (I : World → Prop) (Gs : List (Value → World → Prop)) (R : Nat → Nat → Value → Value → Prop) (Q : Exit → Act → World → Prop) (i : Nat) (o : Oper) : Prop :=
  ∀ a w, Base l n a0 a → I w → (∀ e ∈ o.after, Region.binds .any e = true → gAt Gs e.on (slotV l a e.on) w) →
    if Region.wanted o (yielded l.toArray a.tmps) then
      o.wp P a w (fun a' w' => ∃ v, a' = a.put o.dst v ∧ gAt Gs i (resOf o v) w' ∧ I w' ∧ (∀ j, j < n → ∀ u, gAt Gs j u w → gAt Gs j u w') ∧ Fits n Gs R i (resOf o v) w) Q
    else gAt Gs i undef w ∧ Fits n Gs R i undef w

def StepsOk (P : Program) (l : List Oper) (n : Nat) (a0 : Act) (I : World → Prop) (Gs : List (Value → World → Prop)) (R : Nat → Nat → Value → Value → Prop) (Q : Exit → Act → World → Prop) : List Oper → Nat → Prop
  | [], _ => True
  | o :: rest, i => Step P l n a0 I Gs R Q i o ∧ StepsOk P l n a0 I Gs R Q rest (i + 1)

theorem StepsOk.at : ∀ (r : List Oper) (i : Nat), StepsOk P l n a0 I Gs R Q r i → ∀ j o, r[j]? = some o → Step P l n a0 I Gs R Q (i + j) o
  | [], _, _, _, _, h => by simp at h
  | o :: rest, i, hs, 0, o', h => by
    simp at h; subst h; exact hs.1
  | o :: rest, i, hs, j + 1, o', h => by
    have := StepsOk.at rest (i + 1) hs.2 j o' (by simpa using h)
    rw [show i + (j + 1) = i + 1 + j by omega]
    exact this

/-- What is asked of the frame at the head's end. -/
def End (Gs : List (Value → World → Prop)) (K : Act → Prop) (w : World) : List Oper → Nat → Act → Prop
  | [], _, a => K a
  | o :: rest, i, a => ∀ v, gAt Gs i v w → End Gs K w rest (i + 1) (a.put o.dst v)

def putAll (l : List Oper) (b : Act) : List Oper → Nat → Act → Act
  | [], _, a => a
  | o :: rest, i, a => putAll l b rest (i + 1) (a.put o.dst (slotV l b i))

theorem End.of_slots {K : Act → Prop} {w : World} {b : Act} : ∀ (r : List Oper) (i : Nat) (a : Act), (∀ j, j < r.length → gAt Gs (i + j) (slotV l b (i + j)) w) →
    End Gs K w r i a → K (putAll l b r i a)
  | [], _, _, _, h => h
  | o :: rest, i, a, hg, h => by
    refine End.of_slots rest (i + 1) _ (fun j hj => ?_) (h _ (hg 0 (by simp)))
    have := hg (j + 1) (by simp; omega)
    rwa [show i + (j + 1) = i + 1 + j by omega] at this

/-- No two operations of the head write one slot, each writes a slot that is there; each waits for operations ahead of it alone. -/
def dstsB (l : List Oper) (n sz : Nat) : Bool :=
  (List.range n).all fun i => (match (l[i]?).bind (·.dst) with
    | some d => decide (d < sz) && (List.range n).all fun j => i == j || (l[j]?).bind (·.dst) != some d
    | none => true)
def backB (l : List Oper) (n : Nat) : Bool :=
  (List.range n).all fun i => (match l[i]? with
    | some o => o.after.all fun e => !Region.binds .any e || decide (e.on < i)
    | none => true)

theorem getD_put_self {a : Act} {d : Nat} {v : Value} (h : d < a.tmps.size) : (a.put (some d) v).tmps.getD d undef = v := by
  simp [Act.put, h]
theorem getD_put_ne {a : Act} {dst : Option Tmp} {v : Value} {s : Nat} (h : dst ≠ some s) : (a.put dst v).tmps.getD s undef = a.tmps.getD s undef := by
  cases dst with
  | none => rfl
  | some d =>
    have hne : d ≠ s := fun e => h (by rw [e])
    simp [Act.put, Array.getElem?_setIfInBounds_ne hne]
theorem size_put {a : Act} {dst : Option Tmp} {v : Value} : (a.put dst v).tmps.size = a.tmps.size := by
  cases dst <;> simp [Act.put]
theorem defers_put {a : Act} {dst : Option Tmp} {v : Value} : (a.put dst v).defers = a.defers := by
  cases dst <;> simp [Act.put]

theorem Base.put {a : Act} (h : Base l n a0 a) {i : Nat} (hi : i < n) {o : Oper} (ho : l[i]? = some o) (v : Value) : Base l n a0 (a.put o.dst v) :=
  ⟨by rw [defers_put]; exact h.defers, by rw [size_put]; exact h.size, fun s hs => by
    rw [getD_put_ne (by have := hs i hi; simpa [ho] using this)]; exact h.pre s hs⟩

theorem slotV_put_ne {a : Act} {i j : Nat} {o : Oper} {v : Value} (ho : l[i]? = some o) (hd : dstsB l n a.tmps.size = true) (hi : i < n) (hj : j < n) (hij : i ≠ j) :
    slotV l (a.put o.dst v) j = slotV l a j := by
  unfold slotV
  cases hb : (l[j]?).bind (·.dst) with
  | none => rfl
  | some d =>
    simp only []
    refine getD_put_ne fun he => ?_
    have h1 := List.all_eq_true.1 hd i (List.mem_range.2 hi)
    simp only [ho, Option.bind_some, he, Bool.and_eq_true] at h1
    have h2 := List.all_eq_true.1 h1.2 j (List.mem_range.2 hj)
    simp [hij, hb] at h2

theorem slotV_put_self {a : Act} {i : Nat} {o : Oper} {v : Value} (ho : l[i]? = some o) (hd : dstsB l n a.tmps.size = true) (hi : i < n) :
    slotV l (a.put o.dst v) i = resOf o v := by
  unfold slotV resOf
  simp only [ho, Option.bind_some]
  cases hb : o.dst with
  | none => rfl
  | some d =>
    have h1 := List.all_eq_true.1 hd i (List.mem_range.2 hi)
    simp only [ho, Option.bind_some, hb, Bool.and_eq_true, decide_eq_true_eq] at h1
    exact getD_put_self h1.1

structure Inv (l : List Oper) (n : Nat) (a0 : Act) (I : World → Prop) (Gs : List (Value → World → Prop)) (R : Nat → Nat → Value → Value → Prop) (listed : Array Bool) (a : Act) (w : World) : Prop where
  head : HeadInv .any l.toArray n listed
  base : Base l n a0 a
  inv : I w
  good : ∀ i, i < n → listed.getD i false = true → gAt Gs i (slotV l a i) w
  pair : ∀ i j, i < n → j < n → i ≠ j → listed.getD i false = true → listed.getD j false = true → R i j (slotV l a i) (slotV l a j)

def unlisted (listed : Array Bool) (n : Nat) : Nat := ((List.range n).filter fun i => !listed.getD i true).length

theorem filter_lt {α : Type} {p q : α → Bool} : ∀ {r : List α}, (∀ x ∈ r, q x = true → p x = true) → (∃ x ∈ r, p x = true ∧ q x = false) → (r.filter q).length < (r.filter p).length
  | [], _, h => by obtain ⟨_, h, _⟩ := h; cases h
  | y :: r, h, hx => by
    have hle : ∀ {r : List α}, (∀ x ∈ r, q x = true → p x = true) → (r.filter q).length ≤ (r.filter p).length := by
      intro r
      induction r with
      | nil => intro _; simp
      | cons z r ih =>
        intro hz
        have h1 := ih fun x hx => hz x (List.mem_cons_of_mem _ hx)
        by_cases hq : q z = true
        · simp [hq, hz z (List.mem_cons_self ..) hq]; exact h1
        · by_cases hp : p z = true
          · simp [hq, hp]; omega
          · simp [hq, hp]; exact h1
    obtain ⟨x, hxm, hp, hq⟩ := hx
    rcases List.mem_cons.1 hxm with rfl | hm
    · have := hle (r := r) fun x hx => h x (List.mem_cons_of_mem _ hx)
      simp [hp, hq]; omega
    · have h1 := filter_lt (r := r) (fun x hx => h x (List.mem_cons_of_mem _ hx)) ⟨x, hm, hp, hq⟩
      by_cases hq' : q y = true
      · simp [hq', h y (List.mem_cons_self ..) hq']; exact h1
      · by_cases hp' : p y = true
        · simp [hq', hp']; omega
        · simp [hq', hp']; exact h1

theorem unlisted_set {listed : Array Bool} {i : Nat} (hi : i < n) (h : listed.getD i true = false) : unlisted (listed.setIfInBounds i true) n < unlisted listed n := by
  unfold unlisted
  refine filter_lt (fun x _ hx => ?_) ⟨i, List.mem_range.2 hi, by simp only [h]; rfl, ?_⟩
  · by_cases hxi : i = x
    · subst hxi; simp only [h]; rfl
    · rwa [getD_set_ne true hxi] at hx
  · have : (listed.setIfInBounds i true).getD i false = true := by
      have hlt : i < listed.size := by
        rcases Nat.lt_or_ge i listed.size with h' | h'
        · exact h'
        · simp [Array.getElem?_eq_none h'] at h
      simp [hlt]
    have h2 : (listed.setIfInBounds i true).getD i true = true := by
      cases hc : (listed.setIfInBounds i true).getD i true with
      | true => rfl
      | false => rw [getD_both hc] at this; cases this
    simp only [h2]; rfl

theorem ready_some {listed : Array Bool} (hb : backB l n = true) (hn : n ≤ l.length) (inv : HeadInv .any l.toArray n listed) :
    ∀ i, i < n → listed.getD i true = false → Region.ready .any l.toArray listed ≠ [] := by
  intro i
  induction i using Nat.strongRecOn with
  | _ i ih =>
    intro hi hun
    by_cases hall : ∃ j, j < i ∧ listed.getD j true = false
    · obtain ⟨j, hj, hju⟩ := hall
      exact ih j hj (by omega) hju
    · have hmem : i ∈ Region.ready .any l.toArray listed := by
        refine mem_ready.2 ⟨hun, l[i]'(by omega), by simp, fun e he hbd => ?_⟩
        have h1 := List.all_eq_true.1 hb i (List.mem_range.2 hi)
        have hli : l[i]? = some (l[i]'(by omega)) := by simp
        simp only [hli] at h1
        have h2 := Array.all_eq_true'.1 h1 e he
        simp only [hbd, Bool.not_true, Bool.false_or, decide_eq_true_eq] at h2
        have h3 : ¬ listed.getD e.on true = false := fun hc => hall ⟨e.on, h2, hc⟩
        cases hc : listed.getD e.on false with
        | true => rfl
        | false =>
          exact absurd (getD_in (by rw [inv.size]; simp; omega) hc) h3
      intro h0; rw [h0] at hmem; cases hmem

/-- The flags when the head is done. -/
def doneHead (n m : Nat) : Array Bool := ((List.range m).map fun i => decide (i < n)).toArray

theorem done_eq {listed : Array Bool} (inv : HeadInv .any l.toArray n listed) (h0 : ∀ i, i < n → listed.getD i true = true) : listed = doneHead n l.length := by
  apply Array.ext
  · simp [doneHead, inv.size]
  · intro i h1 h2
    have hil : i < l.length := by have := inv.size; simp at this; omega
    simp only [doneHead, List.getElem_toArray, List.getElem_map, List.getElem_range]
    by_cases hi : i < n
    · have := h0 i hi
      simp [h1] at this
      simp [hi, this]
    · have := inv.tail i (by omega) (by simpa using hil)
      simp [h1] at this
      simp [hi, this]

theorem putAll_eq {b : Act} (hb : Base l n a0 b) (hd : dstsB l n a0.tmps.size = true) (hn : n ≤ l.length) : putAll l b (l.take n) 0 a0 = b := by
  have key : ∀ (k : Nat), k ≤ n → ∀ a : Act, Base l n a0 a → (∀ i, i < n - k → slotV l a i = slotV l b i) → putAll l b ((l.take n).drop (n - k)) (n - k) a = b := by
    intro k
    induction k with
    | zero =>
      intro _ a ha hs
      have : (l.take n).drop (n - 0) = [] := by simp
      rw [this]
      show a = b
      have ht : a.tmps = b.tmps := by
        apply Array.ext
        · rw [ha.size, hb.size]
        · intro s h1 h2
          have : a.tmps.getD s undef = b.tmps.getD s undef := by
            by_cases hx : ∃ i, i < n ∧ (l[i]?).bind (·.dst) = some s
            · obtain ⟨i, hi, he⟩ := hx
              have := hs i (by omega)
              simpa [slotV, he] using this
            · have hx' : ∀ i, i < n → (l[i]?).bind (·.dst) ≠ some s := fun i hi he => hx ⟨i, hi, he⟩
              rw [ha.pre s hx', hb.pre s hx']
          simpa [h1, h2] using this
      have hde : a.defers = b.defers := by rw [ha.defers, hb.defers]
      cases a; cases b; simp_all
    | succ k ih =>
      intro hk a ha hs
      have hlt : n - (k + 1) < (l.take n).length := by simp; omega
      rw [List.drop_eq_getElem_cons hlt]
      have hi : n - (k + 1) < n := by omega
      have hlo : l[n - (k + 1)]? = some (l[n - (k + 1)]'(by omega)) := by simp
      have he : (l.take n)[n - (k + 1)] = l[n - (k + 1)]'(by omega) := by simp
      simp only [putAll, he]
      rw [show n - (k + 1) + 1 = n - k by omega]
      refine ih (by omega) _ (ha.put hi hlo _) fun i hil => ?_
      by_cases hin : i = n - (k + 1)
      · subst hin
        rw [slotV_put_self (v := slotV l b (n - (k + 1))) hlo (by rw [ha.size]; exact hd) hi]
        unfold resOf
        split
        · rfl
        · rename_i h
          unfold slotV
          rw [hlo, Option.bind_some, h]
      · rw [slotV_put_ne hlo (by rw [ha.size]; exact hd) hi (by omega) (Ne.symm hin)]
        exact hs i (by omega)
  have := key n (Nat.le_refl _) a0 ⟨rfl, rfl, fun _ _ => rfl⟩ (fun i hi => by omega)
  simpa using this

def okB (l : List Oper) (n sz : Nat) : Bool :=
  decide (n ≤ l.length) && dstsB l n sz && backB l n && (n == l.length || (Region.sinkB .any l.toArray n && Region.chainB .any l.toArray n)) &&
  Region.seqB .any l.toArray (l.length - n) n (doneHead n l.length)

theorem any_flow (hok : okB l n a0.tmps.size = true) (hs : StepsOk P l n a0 I Gs R Q (l.take n) 0)
    (hend : ∀ w, I w → End Gs (fun a => (∀ i j, i < n → j < n → i ≠ j → R i j (slotV l a i) (slotV l a j)) → wpList P l.toArray Q (l.drop n) a w) w (l.take n) 0 a0) :
    ∀ (k : Nat) (listed : Array Bool) (a : Act) (w : World), unlisted listed n ≤ k → Inv l n a0 I Gs R listed a w → wpAny P .any l.toArray Q (unlisted listed n + (l.length - n)) listed a w := by
  simp only [okB, Bool.and_eq_true, decide_eq_true_eq] at hok
  obtain ⟨⟨⟨⟨hn, hd⟩, hb⟩, hsc⟩, hseq⟩ := hok
  intro k
  induction k with
  | zero =>
    intro listed a w hk inv
    have h0 : unlisted listed n = 0 := by omega
    have hall : ∀ i, i < n → listed.getD i true = true := by
      intro i hi
      cases hc : listed.getD i true with
      | true => rfl
      | false =>
        have := unlisted_set hi hc
        omega
    have hl := done_eq inv.head hall
    rw [h0, Nat.zero_add]
    have hlen : (l.drop n).length = l.length - n := by simp
    have hKK := End.of_slots (l := l) (b := a) (l.take n) 0 a0 (fun j hj => by
      have hjn : j < n := by simp at hj; omega
      rw [Nat.zero_add]
      refine inv.good j hjn ?_
      have := hall j hjn
      cases hc : listed.getD j false with
      | true => rfl
      | false => rw [getD_in (by rw [inv.head.size]; simp; omega) hc] at this; cases this) (hend w inv.inv)
    rw [putAll_eq inv.base hd hn] at hKK
    have hls : ∀ j, j < n → listed.getD j false = true := by
      intro j hjn
      have := hall j hjn
      cases hc : listed.getD j false with
      | true => rfl
      | false => rw [getD_in (by rw [inv.head.size]; simp; omega) hc] at this; cases this
    have hKK := hKK fun i j hi hj hij => inv.pair i j hi hj hij (hls i hi) (hls j hj)
    have := wpAny_of_seq (md := .any) (Q' := Q) (ops := l.toArray) (l.drop n) n listed a w (fun j => by simp [List.getElem?_drop]) (by rw [hlen, hl]; exact hseq) hKK
    rwa [hlen] at this
  | succ k ih =>
    intro listed a w hk inv
    by_cases h0 : unlisted listed n = 0
    · exact ih listed a w (by omega) inv
    · have hex : ∃ i, i < n ∧ listed.getD i true = false := by
        unfold unlisted at h0
        cases hf : (List.range n).filter (fun i => !listed.getD i true) with
        | nil => rw [hf] at h0; exact absurd rfl h0
        | cons i r =>
          have : i ∈ (List.range n).filter (fun i => !listed.getD i true) := by rw [hf]; exact List.mem_cons_self ..
          rw [List.mem_filter, List.mem_range] at this
          exact ⟨i, this.1, by simpa using this.2⟩
      obtain ⟨i0, hi0, hu0⟩ := hex
      obtain ⟨m, hm⟩ : ∃ m, unlisted listed n = m + 1 := ⟨unlisted listed n - 1, by omega⟩
      rw [hm, show m + 1 + (l.length - n) = (m + (l.length - n)) + 1 by omega]
      refine ⟨fun hr => absurd hr (ready_some hb hn inv.head i0 hi0 hu0), fun i hi => ?_⟩
      have hin : i < n := by
        rcases Nat.lt_or_ge i n with h | h
        · exact h
        · simp only [Bool.or_eq_true, beq_iff_eq] at hsc
          rcases hsc with he | hsc
          · obtain ⟨_, o, ho, _⟩ := mem_ready.1 hi
            have := (Array.getElem?_eq_some_iff.1 ho).1
            simp at this
            omega
          · simp only [Bool.and_eq_true] at hsc
            have hnl : n < l.toArray.size := by
              obtain ⟨_, o, ho, _⟩ := mem_ready.1 hi
              have := (Array.getElem?_eq_some_iff.1 ho).1
              simp at this ⊢
              omega
            exact absurd hi (tail_waits hsc.1 hsc.2 hnl inv.head _ i0 rfl hi0 hu0 i h)
      obtain ⟨hun, o, ho, hall⟩ := mem_ready.1 hi
      have hol : l[i]? = some o := by simpa using ho
      have hst := StepsOk.at _ _ hs i o (by rw [List.getElem?_take_of_lt hin]; exact hol)
      rw [Nat.zero_add] at hst
      have hst' := hst a w inv.base inv.inv (fun e he hbd => by
        have h1 := hall e he hbd
        have h2 := List.all_eq_true.1 hb i (List.mem_range.2 hin)
        simp only [hol] at h2
        have h3 := Array.all_eq_true'.1 h2 e he
        simp only [hbd, Bool.not_true, Bool.false_or, decide_eq_true_eq] at h3
        exact inv.good e.on (by omega) h1)
      have hlt := unlisted_set hin hun
      have hds : dstsB l n a.tmps.size = true := by rw [inv.base.size]; exact hd
      have next : ∀ (v : Value) (w' : World), gAt Gs i (resOf o v) w' → I w' → (∀ j, j < n → ∀ u, gAt Gs j u w → gAt Gs j u w') → Fits n Gs R i (resOf o v) w →
          wpAny P .any l.toArray Q (m + (l.length - n)) (listed.setIfInBounds i true) (a.put o.dst v) w' := by
        intro v w' hg hI hmono hfit
        have hinv : Inv l n a0 I Gs R (listed.setIfInBounds i true) (a.put o.dst v) w' := by
          refine ⟨inv.head.set hi hin, inv.base.put hin hol v, hI, fun j hj hlj => ?_, fun p q hp hq hpq hlp hlq => ?_⟩
          by_cases hij : i = j
          · subst hij
            rw [slotV_put_self (v := v) hol hds hin]; exact hg
          · rw [slotV_put_ne hol hds hin hj hij]
            rw [getD_set_ne false hij] at hlj
            exact hmono j hj _ (inv.good j hj hlj)
          · by_cases hip : i = p
            · subst hip
              rw [slotV_put_self (v := v) hol hds hin, slotV_put_ne hol hds hin hq hpq]
              rw [getD_set_ne false hpq] at hlq
              exact (hfit q hq (Ne.symm hpq) _ (inv.good q hq hlq)).1
            · by_cases hiq : i = q
              · subst hiq
                rw [slotV_put_self (v := v) hol hds hin, slotV_put_ne hol hds hin hp hip]
                rw [getD_set_ne false hip] at hlp
                exact (hfit p hp hpq _ (inv.good p hp hlp)).2
              · rw [slotV_put_ne hol hds hin hp hip, slotV_put_ne hol hds hin hq hiq]
                rw [getD_set_ne false hip] at hlp
                rw [getD_set_ne false hiq] at hlq
                exact inv.pair p q hp hq hpq hlp hlq
        have h1 := ih (listed.setIfInBounds i true) (a.put o.dst v) w' (by omega) hinv
        -- the count may have fallen by more than one in no case: show it is m
        have hcnt : unlisted (listed.setIfInBounds i true) n = m := by
          have hge : unlisted listed n ≤ unlisted (listed.setIfInBounds i true) n + 1 := by
            unfold unlisted
            have aux : ∀ (r : List Nat), r.Nodup → (r.filter fun i => !listed.getD i true).length ≤ (r.filter fun x => !(listed.setIfInBounds i true).getD x true).length + 1 := by
              intro r
              induction r with
              | nil => intro _; simp
              | cons x r ih2 =>
                intro hnd
                rw [List.nodup_cons] at hnd
                by_cases hxi : i = x
                · subst hxi
                  have e : (r.filter fun x => !(listed.setIfInBounds i true).getD x true) = r.filter fun i => !listed.getD i true := by
                    apply List.filter_congr
                    intro y hy
                    have : i ≠ y := fun e => hnd.1 (e ▸ hy)
                    rw [getD_set_ne true this]
                  rw [List.filter_cons, List.filter_cons, e]
                  split <;> split <;> simp <;> omega
                · have h2 := ih2 hnd.2
                  rw [List.filter_cons, List.filter_cons, getD_set_ne true hxi]
                  split
                  · simp only [List.length_cons]; omega
                  · exact h2
            exact aux _ List.nodup_range
          omega
        rwa [hcnt] at h1
      unfold wpOp
      simp only [ho]
      split
      · rename_i hwt
        rw [if_pos hwt] at hst'
        exact .inl (Oper.wp_mono (fun a' w' ⟨v, he, hg, hI, hmono, hfit⟩ => by subst he; exact next v w' hg hI hmono hfit) hst')
      · rename_i hwt
        rw [if_neg hwt] at hst'
        have e0 : resOf o undef = undef := by unfold resOf; split <;> rfl
        exact next undef w (by rw [e0]; exact hst'.1) inv.inv (fun _ _ _ h => h) (by rw [e0]; exact hst'.2)

def preB (l : List Oper) (n s : Nat) : Bool := (List.range n).all fun i => (l[i]?).bind (·.dst) != some s
theorem Base.pre' {a : Act} (h : Base l n a0 a) (s : Nat) (hs : preB l n s = true) : a.eval (.tmp s) = a0.eval (.tmp s) :=
  h.pre s fun i hi he => by
    have := List.all_eq_true.1 hs i (List.mem_range.2 hi)
    rw [he] at this
    simp at this

/-- An operation that yields a value and leaves the world alone. -/
theorem step_val {i : Nat} {o : Oper} (hg : o.guard = none)
    (h : ∀ a w, Base l n a0 a → I w → (∀ e ∈ o.after, Region.binds .any e = true → gAt Gs e.on (slotV l a e.on) w) → ∃ v, (execOp a.eval o).run P w = .ok (.value v) w ∧ gAt Gs i (resOf o v) w) :
    Step P l n a0 I Gs anyR Q i o := by
  intro a w hb hI hd
  have hw : Region.wanted o (yielded l.toArray a.tmps) = true := by simp [Region.wanted, hg]
  rw [if_pos hw]
  obtain ⟨v, hr, hv⟩ := h a w hb hI hd
  unfold Oper.wp
  rw [hr]
  exact ⟨v, rfl, hv, hI, fun _ _ _ h => h, Fits.any⟩

/-- A call. -/
theorem step_call {i : Nat} {o : Oper} (hg : o.guard = none)
    (h : ∀ a w, Base l n a0 a → I w → (∀ e ∈ o.after, Region.binds .any e = true → gAt Gs e.on (slotV l a e.on) w) → ∃ f args, (execOp a.eval o).run P w = .ok (.enter f args) w ∧
      Calls P f args w (fun e w' => ∃ v, e = .returned v ∧ gAt Gs i (resOf o v) w' ∧ I w' ∧ ∀ j, j < n → ∀ u, gAt Gs j u w → gAt Gs j u w')) :
    Step P l n a0 I Gs anyR Q i o := by
  intro a w hb hI hd
  have hw : Region.wanted o (yielded l.toArray a.tmps) = true := by simp [Region.wanted, hg]
  rw [if_pos hw]
  obtain ⟨f, args, hr, hc⟩ := h a w hb hI hd
  unfold Oper.wp
  rw [hr]
  exact hc.mono fun e w' ⟨v, he, hv, hI', hm⟩ => by subst he; exact ⟨v, rfl, hv, hI', hm, Fits.any⟩

/-- An operation that hands on a value and turns the world. -/
theorem step_to {i : Nat} {o : Oper} (hg : o.guard = none)
    (h : ∀ a w, Base l n a0 a → I w → (∀ e ∈ o.after, Region.binds .any e = true → gAt Gs e.on (slotV l a e.on) w) → ∃ v w', ((execOp a.eval o).run P w = .ok (.value v) w' ∨ ((execOp a.eval o).run P w = .ok .skip w' ∧ v = undef)) ∧ gAt Gs i (resOf o v) w' ∧ I w' ∧ ∀ j, j < n → ∀ u, gAt Gs j u w → gAt Gs j u w') :
    Step P l n a0 I Gs anyR Q i o := by
  intro a w hb hI hd
  have hw : Region.wanted o (yielded l.toArray a.tmps) = true := by simp [Region.wanted, hg]
  rw [if_pos hw]
  obtain ⟨v, w', hr, hv, hI', hm⟩ := h a w hb hI hd
  unfold Oper.wp
  rcases hr with hr | ⟨hr, rfl⟩
  · rw [hr]; exact ⟨v, rfl, hv, hI', hm, Fits.any⟩
  · rw [hr]; exact ⟨undef, rfl, hv, hI', hm, Fits.any⟩

/-- The same where something is asked of two values together, not of this one. -/
theorem step_valR {i : Nat} {o : Oper} (hg : o.guard = none) (hf : ∀ j v u, j ≠ i → R i j v u ∧ R j i u v)
    (h : ∀ a w, Base l n a0 a → I w → (∀ e ∈ o.after, Region.binds .any e = true → gAt Gs e.on (slotV l a e.on) w) → ∃ v, (execOp a.eval o).run P w = .ok (.value v) w ∧ gAt Gs i (resOf o v) w) :
    Step P l n a0 I Gs R Q i o := by
  intro a w hb hI hd
  have hw : Region.wanted o (yielded l.toArray a.tmps) = true := by simp [Region.wanted, hg]
  rw [if_pos hw]
  obtain ⟨v, hr, hv⟩ := h a w hb hI hd
  unfold Oper.wp
  rw [hr]
  exact ⟨v, rfl, hv, hI, fun _ _ _ h => h, fun j _ hj u _ => hf j _ u hj⟩
theorem step_callR {i : Nat} {o : Oper} (hg : o.guard = none) (hf : ∀ j v u, j ≠ i → R i j v u ∧ R j i u v)
    (h : ∀ a w, Base l n a0 a → I w → (∀ e ∈ o.after, Region.binds .any e = true → gAt Gs e.on (slotV l a e.on) w) → ∃ f args, (execOp a.eval o).run P w = .ok (.enter f args) w ∧
      Calls P f args w (fun e w' => ∃ v, e = .returned v ∧ gAt Gs i (resOf o v) w' ∧ I w' ∧ ∀ j, j < n → ∀ u, gAt Gs j u w → gAt Gs j u w')) :
    Step P l n a0 I Gs R Q i o := by
  intro a w hb hI hd
  have hw : Region.wanted o (yielded l.toArray a.tmps) = true := by simp [Region.wanted, hg]
  rw [if_pos hw]
  obtain ⟨f, args, hr, hc⟩ := h a w hb hI hd
  unfold Oper.wp
  rw [hr]
  exact hc.mono fun e w' ⟨v, he, hv, hI', hm⟩ => by subst he; exact ⟨v, rfl, hv, hI', hm, fun j _ hj u _ => hf j _ u hj⟩
theorem step_toR {i : Nat} {o : Oper} (hg : o.guard = none)
    (h : ∀ a w, Base l n a0 a → I w → (∀ e ∈ o.after, Region.binds .any e = true → gAt Gs e.on (slotV l a e.on) w) → ∃ v w', (execOp a.eval o).run P w = .ok (.value v) w' ∧ gAt Gs i (resOf o v) w' ∧ I w' ∧ (∀ j, j < n → ∀ u, gAt Gs j u w → gAt Gs j u w') ∧ Fits n Gs R i (resOf o v) w) :
    Step P l n a0 I Gs R Q i o := by
  intro a w hb hI hd
  have hw : Region.wanted o (yielded l.toArray a.tmps) = true := by simp [Region.wanted, hg]
  rw [if_pos hw]
  obtain ⟨v, w', hr, hv, hI', hm, hfit⟩ := h a w hb hI hd
  unfold Oper.wp
  rw [hr]
  exact ⟨v, rfl, hv, hI', hm, hfit⟩

/-- What a call of a named function comes to. -/
theorem run_enter {P : Program} {f : FuncId} (hE : ∀ args w, (callFunc f args).run P w = .ok (.enter f args) w) {a : Act} {dst : Option Tmp} {xs : Array Operand} {ats : Array TypeId} {ty : TypeId} {pos : String} {after : Array Edge} {guard : Option (Nat × Bool)} {w : World} {ys : Array Value}
    (h : #[] ++ xs.map a.eval ++ #[] = ys) : (execOp a.eval { dst, op := .call { callee := .value (.func f), args := xs, argTypes := ats }, type := ty, pos, after, guard }).run P w = .ok (.enter f ys) w := by
  rw [execOp_call_go, h]; exact hE _ _

/-- Facts that stay. -/
def Stay (E : World → World → Prop) (Gs : List (Value → World → Prop)) : Prop := ∀ g ∈ Gs, ∀ w w', E w w' → ∀ u, g u w → g u w'
theorem Stay.at {E : World → World → Prop} (h : Stay E Gs) {w w' : World} (he : E w w') : ∀ j, j < n → ∀ u, gAt Gs j u w → gAt Gs j u w' := by
  intro j _ u hu
  unfold gAt at hu ⊢
  cases hg : Gs[j]? with
  | none => trivial
  | some g => rw [hg] at hu; exact h g (List.mem_of_getElem? hg) w w' he u hu
theorem Stay.nil {E : World → World → Prop} : Stay E [] := fun _ h => by cases h
theorem Stay.cons {E : World → World → Prop} {g : Value → World → Prop} {r : List (Value → World → Prop)} (h : ∀ w w', E w w' → ∀ u, g u w → g u w') (k : Stay E r) : Stay E (g :: r) := by
  intro x hx
  rcases List.mem_cons.1 hx with rfl | hx
  · exact h
  · exact k x hx

theorem wp_region_flowR {id : Nat} {w : World} (n : Nat) (hm : P.follows .mixedOrders = true) (I : World → Prop) (R : Nat → Nat → Value → Value → Prop) (Gs : List (Value → World → Prop)) (hok : okB l n a0.tmps.size = true)
    (hI : I { w with drawn := w.drawn + 1 }) (hs : StepsOk P l n a0 I Gs R Q (l.take n) 0)
    (hend : ∀ w, I w → End Gs (fun a => (∀ i j, i < n → j < n → i ≠ j → R i j (slotV l a i) (slotV l a j)) → wpList P l.toArray Q (l.drop n) a w) w (l.take n) 0 a0) : (Code.region id l.toArray true).wp P Q a0 w := by
  refine wp_region_any hm ?_
  have hn : n ≤ l.length := by
    simp only [okB, Bool.and_eq_true, decide_eq_true_eq] at hok
    exact hok.1.1.1.1
  have hu : unlisted (Array.replicate l.toArray.size false) n = n := by
    unfold unlisted
    rw [List.filter_eq_self.2]
    · simp
    · intro i hi
      have : i < l.length := by have := List.mem_range.1 hi; omega
      simp [this]
  have inv : Inv l n a0 I Gs R (Array.replicate l.toArray.size false) a0 { w with drawn := w.drawn + 1 } :=
    ⟨⟨by simp, fun j oj _ hl => (by rw [getD_replicate_false] at hl; cases hl), fun t _ ht => getD_in (by simpa using ht) (getD_replicate_false _ _)⟩,
     ⟨rfl, rfl, fun _ _ => rfl⟩, hI, fun i _ h => (by rw [getD_replicate_false] at h; cases h), fun i _ _ _ _ h => (by rw [getD_replicate_false] at h; cases h)⟩
  have := any_flow hok hs hend n _ _ _ (by rw [hu]; exact Nat.le_refl _) inv
  rw [hu] at this
  rw [show l.toArray.size = n + (l.length - n) by simp; omega]
  have e : Array.replicate (n + (l.length - n)) false = Array.replicate l.toArray.size false := by
    congr 1; simp; omega
  rw [e]
  exact this

theorem End.mono {K K' : Act → Prop} {w : World} (h : ∀ a, K a → K' a) : ∀ (r : List Oper) (i : Nat) (a : Act), End Gs K w r i a → End Gs K' w r i a
  | [], _, _, hh => h _ hh
  | _ :: rest, i, _, hh => fun v hv => End.mono h rest (i + 1) _ (hh v hv)

theorem wp_region_flow {id : Nat} {w : World} (n : Nat) (hm : P.follows .mixedOrders = true) (I : World → Prop) (Gs : List (Value → World → Prop)) (hok : okB l n a0.tmps.size = true)
    (hI : I { w with drawn := w.drawn + 1 }) (hs : StepsOk P l n a0 I Gs anyR Q (l.take n) 0)
    (hend : ∀ w, I w → End Gs (fun a => wpList P l.toArray Q (l.drop n) a w) w (l.take n) 0 a0) : (Code.region id l.toArray true).wp P Q a0 w :=
  wp_region_flowR n hm I anyR Gs hok hI hs fun w hw => End.mono (K := fun a => wpList P l.toArray Q (l.drop n) a w) (K' := fun a => (∀ i j, i < n → j < n → i ≠ j → anyR i j (slotV l a i) (slotV l a j)) → wpList P l.toArray Q (l.drop n) a w) (fun _ h _ => h) _ _ _ (hend w hw)
end
end Go.Flow
