/- A store in a region whose order Go leaves open: before it the world is as it was, behind it as it leaves it. Conditions: none (lemmas over any program). -/
import Derived.Test.YtncabodphjkkfaaGreatFlow2
namespace Go.Flow
section
variable {P : Program} {l : List Oper} {n : Nat} {a0 : Act} {I : World → Prop} {Gs : List (Value → World → Prop)} {Q : Exit → Act → World → Prop} {R : Nat → Nat → Value → Value → Prop}

/-- Store t, which waits for the operations ds, turns a world of A into one of B. -/
def StX (t : Nat) (ds : List Nat) (A B : World → Prop) (listed : Array Bool) (_ : Act) (w : World) : Prop :=
  (listed.getD t false = true → ∀ d ∈ ds, listed.getD d false = true) ∧ (listed.getD t false = false → A w) ∧ (listed.getD t false = true → B w)
theorem getD_mono {listed : Array Bool} {i d : Nat} (h : listed.getD d false = true) : (listed.setIfInBounds i true).getD d false = true := by
  by_cases e : i = d
  · subst e
    have : i < listed.size := by
      rcases Nat.lt_or_ge i listed.size with h' | h'
      · exact h'
      · simp [Array.getElem?_eq_none h'] at h
    simp [this]
  · rw [getD_set_ne false e]; exact h
theorem StX.keep {t : Nat} {ds : List Nat} {A B : World → Prop} {i : Nat} {o : Oper} (ht : i ≠ t) : KeepX (fun a b => a = b) (StX t ds A B) i o := by
  intro listed a w v w' hE hX
  subst hE
  obtain ⟨h1, h2, h3⟩ := hX
  unfold StX
  rw [getD_set_ne false ht]
  exact ⟨fun h d hd => getD_mono (h1 h d hd), h2, h3⟩
/-- An operation that the store waits for meets the world as it was. -/
theorem StX.before {t : Nat} {ds : List Nat} {A B : World → Prop} {listed : Array Bool} {a : Act} {w : World} (h : StX t ds A B listed a w) {i : Nat} (hi : i ∈ ds) (hl : listed.getD i true = false) : A w := by
  cases hc : listed.getD t false with
  | false => exact h.2.1 hc
  | true => have := h.1 hc i hi; rw [getD_ff hl] at this; cases this
theorem StX.store {t : Nat} {ds : List Nat} {A B : World → Prop} {listed : Array Bool} {a a' : Act} {w w' : World} (_h : StX t ds A B listed a w) (hl : listed.getD t true = false) (hd : ∀ d ∈ ds, listed.getD d false = true) (hB : B w') : StX t ds A B (listed.setIfInBounds t true) a' w' := by
  unfold StX
  rw [getD_set_self hl]
  exact ⟨fun _ d hdd => getD_mono (hd d hdd), fun h => (by cases h), fun _ => hB⟩
/-- A load that is done before the store. -/
theorem stepX_early {X : Array Bool → Act → World → Prop} {i t : Nat} {ds : List Nat} {A B : World → Prop} {o : Oper} (hg : o.guard = none) (hX : X = StX t ds A B) (hi : i ∈ ds) (ht : i ≠ t)
    (h : ∀ a w, Base l n a0 a → I w → A w → (∀ e ∈ o.after, Region.binds .any e = true → gAt Gs e.on (slotV l a e.on) w) → ∃ v, (execOp a.eval o).run P w = .ok (.value v) w ∧ gAt Gs i (resOf o v) w) :
    StepX P l n a0 I Gs (fun _ _ _ _ => True) X Q i o := by
  subst hX
  refine stepX_to hg fun listed a w hb hI hX hl _ hd => ?_
  obtain ⟨v, hr, hv⟩ := h a w hb hI (hX.before hi hl) hd
  exact ⟨v, w, .inl hr, hv, hI, fun _ _ _ _ h => h, fun _ _ _ _ _ => ⟨trivial, trivial⟩, StX.keep ht _ _ _ _ _ rfl hX⟩
end
end Go.Flow
