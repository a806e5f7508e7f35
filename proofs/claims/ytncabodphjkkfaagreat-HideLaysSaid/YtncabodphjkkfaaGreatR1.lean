/- What a cut is, in plain Lean; whether two squares overlap. Conditions: none. -/
import Derived.Test.YtncabodphjkkfaaGreatS2
namespace Go.Proofs.YtncabodphjkkfaaGreat
open Go.RowKit Go.Limbs Go.Shelf

def sqBad (q : Sq) : Prop := q.1 < 0 ∨ q.2.1 < 0 ∨ q.2.2 < 1 ∨ 1000 < q.2.2 ∨ 1000 - q.2.2 < q.1 ∨ 1000 - q.2.2 < q.2.1
instance (q : Sq) : Decidable (sqBad q) := by unfold sqBad; infer_instance
def sqApart (a b : Sq) : Prop := a.1 + a.2.2 ≤ b.1 ∨ b.1 + b.2.2 ≤ a.1 ∨ a.2.1 + a.2.2 ≤ b.2.1 ∨ b.2.1 + b.2.2 ≤ a.2.1
instance (a b : Sq) : Decidable (sqApart a b) := by unfold sqApart; infer_instance
def sqAt (l : List Sq) (k : Nat) : Sq := l.getD k (0, 0, 0)
def wTo (l : List Sq) : Nat → Int
  | 0 => 0
  | k + 1 => max (wTo l k) ((sqAt l k).1 + (sqAt l k).2.2)
def hTo (l : List Sq) : Nat → Int
  | 0 => 0
  | k + 1 => max (hTo l k) ((sqAt l k).2.1 + (sqAt l k).2.2)
def arTo (l : List Sq) : Nat → Int
  | 0 => 0
  | k + 1 => arTo l k + (sqAt l k).2.2 * (sqAt l k).2.2
def pairBad (l : List Sq) : Prop := ∃ i, i < l.length ∧ ∃ k, k < i ∧ ¬ sqApart (sqAt l i) (sqAt l k)
/-- Why squares are no cut. -/
noncomputable def readErr (l : List Sq) : Int :=
  open Classical in
  if 24 < l.length then 3 else if ∃ q ∈ l, sqBad q then 1 else if pairBad l then 2 else if arTo l l.length = 0 ∨ arTo l l.length ≠ wTo l l.length * hTo l l.length then 2 else 0

theorem to_bounds {l : List Sq} (k : Nat) (hk : k ≤ l.length) (h : ∀ j, j < k → ¬ sqBad (sqAt l j)) : 0 ≤ wTo l k ∧ wTo l k ≤ 1000 ∧ 0 ≤ hTo l k ∧ hTo l k ≤ 1000 ∧ 0 ≤ arTo l k ∧ arTo l k ≤ (k : Int) * 1000000 := by
  induction k with
  | zero => simp [wTo, hTo, arTo]
  | succ k ih =>
    obtain ⟨a1, a2, a3, a4, a5, a6⟩ := ih (by omega) (fun j hj => h j (by omega))
    have hb := h k (by omega)
    unfold sqBad at hb
    obtain ⟨⟨x, y, s⟩, hq⟩ : ∃ q, sqAt l k = q := ⟨_, rfl⟩
    rw [hq] at hb
    simp only [wTo, hTo, arTo, hq] at *
    have hs : s * s ≤ 1000 * s := Int.mul_le_mul_of_nonneg_right (by omega) (by omega)
    have hs0 : 0 ≤ s * s := Int.mul_nonneg (by omega) (by omega)
    refine ⟨by omega, by omega, by omega, by omega, by omega, by omega⟩

set_option maxHeartbeats 1000000 in
theorem apart_any (a b : Sq) (w : World) (ha : ¬ sqBad a) (hb : ¬ sqBad b) : Calls Tryz.prog 98 #[.agg #[.int .i64 a.1, .int .i64 a.2.1, .int .i64 a.2.2], .agg #[.int .i64 b.1, .int .i64 b.2.1, .int .i64 b.2.2]] w fun e w' => e = .returned (.bool (decide (sqApart a b))) ∧ Ext w w' := by
  obtain ⟨ax, ay, az⟩ := a
  obtain ⟨bx, by_, bz⟩ := b
  unfold sqBad at ha hb
  simp only [] at ha hb ⊢
  have hdd : decide (sqApart (ax, ay, az) (bx, by_, bz)) = (decide (ax + az ≤ bx) || decide (bx + bz ≤ ax) || decide (ay + az ≤ by_) || decide (by_ + bz ≤ ay)) := by
    rw [Bool.eq_iff_iff]; simp only [sqApart, decide_eq_true_eq, Bool.or_eq_true, or_assoc]; exact decide_eq_true_iff
  rw [hdd]
  clear hdd
  have a1 : 0 ≤ ax := by omega
  have a2 : 0 ≤ ay := by omega
  have a3 : 1 ≤ az := by omega
  have a4 : az ≤ 1000 := by omega
  have a5 : ax ≤ 1000 := by omega
  have a6 : ay ≤ 1000 := by omega
  have b1 : 0 ≤ bx := by omega
  have b2 : 0 ≤ by_ := by omega
  have b3 : 1 ≤ bz := by omega
  have b4 : bz ≤ 1000 := by omega
  have b5 : bx ≤ 1000 := by omega
  have b6 : by_ ≤ 1000 := by omega
  clear ha hb
  obtain ⟨d1, hd1⟩ : ∃ d, decide (ax + az ≤ bx) = d := ⟨_, rfl⟩
  obtain ⟨d2, hd2⟩ : ∃ d, decide (bx + bz ≤ ax) = d := ⟨_, rfl⟩
  obtain ⟨d3, hd3⟩ : ∃ d, decide (ay + az ≤ by_) = d := ⟨_, rfl⟩
  obtain ⟨d4, hd4⟩ : ∃ d, decide (by_ + bz ≤ ay) = d := ⟨_, rfl⟩
  rw [hd1, hd2, hd3, hd4]
  go_enter Tryz.func98, Tryz.ntmps98
  cases d1
  · cases d2
    · cases d3
      · go_wp2
        go_ret
        exact ⟨by cases d4 <;> rfl, ((Below.refl _ _).alloc (Nat.le_refl _) _).alloc (by simp) _⟩
      · go_wp2
        go_ret
        exact ⟨rfl, ((Below.refl _ _).alloc (Nat.le_refl _) _).alloc (by simp) _⟩
    · go_wp2
      go_ret
      exact ⟨rfl, ((Below.refl _ _).alloc (Nat.le_refl _) _).alloc (by simp) _⟩
  · go_wp2
    go_ret
    exact ⟨rfl, ((Below.refl _ _).alloc (Nat.le_refl _) _).alloc (by simp) _⟩

end Go.Proofs.YtncabodphjkkfaaGreat
