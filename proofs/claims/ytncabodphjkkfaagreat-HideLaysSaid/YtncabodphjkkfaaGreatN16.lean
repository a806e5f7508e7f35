/- A fraction's text. Conditions: its parts are not longer than any machine's memory. -/
import Derived.Test.YtncabodphjkkfaaGreatN15
import Derived.Test.YtncabodphjkkfaaGreatN14
namespace Go.Proofs.YtncabodphjkkfaaGreat
open Go.RowKit Go.Limbs Go.Dec Go.Shelf

theorem lt_ten_limbs (n : Nat) : n < 10 ^ (10 * (limbs n).length) := by
  have h := lt_pow_limbs n
  refine Nat.lt_of_lt_of_le h ?_
  rw [Nat.pow_mul]
  exact Nat.pow_le_pow_left (by decide) _
theorem decRev_limbs {n L : Nat} (h : (limbs n).length ≤ L) : (decRev n).length ≤ 10 * L :=
  Nat.le_trans (decRev_length_pow _ _ (lt_ten_limbs n)) (Nat.mul_le_mul_left _ h)

def bstr (l : List UInt8) : Value := .string ⟨l.toArray⟩
theorem bstr_append (a b : List UInt8) : (⟨a.toArray⟩ ++ ⟨b.toArray⟩ : ByteArray) = ⟨(a ++ b).toArray⟩ := by
  ext1; simp

/-- The text of a fraction, and why there is none. -/
def numText (q : Rat) : List UInt8 := (if q.num < 0 then [45] else []) ++ decBytes q.num.natAbs ++ (if q.den = 1 then [] else 47 :: decBytes q.den)
def numErr (q : Rat) : Int := if 4000 < (decBytes q.num.natAbs).length then 4 else if q.den = 1 then 0 else if 4000 < (decBytes q.den).length then 4 else 0
def numOut (q : Rat) : List UInt8 := if numErr q = 0 then numText q else []
theorem num_end {x : ByteArray} {l : List UInt8} {c : Int} {q : Rat} (hr : numErr q = c ∧ numOut q = l) (h : x = ⟨l.toArray⟩) : Ending.returned (.tuple #[.string x, .int .i64 c]) = .returned (.tuple #[bstr (numOut q), .int .i64 (numErr q)]) := by rw [hr.1, hr.2, h]; rfl

set_option maxRecDepth 100000 in
set_option maxHeartbeats 2000000 in
theorem num_any (v : Value) (q : Rat) (w : World) (h : IsRat w v q) (hl : RatLen q 4398046511104) :
    Calls Tryz.prog 71 #[v] w fun e w' => e = .returned (.tuple #[bstr (numOut q), .int .i64 (numErr q)]) ∧ Ext w w' := by
  have hq := h
  obtain ⟨s, t, rfl, hs, ht⟩ := h
  have hs2 := hs.one
  have ht2 := ht.one
  have K1 := hide (fun W (hm : Mag W s q.num.natAbs) => text_any s q.num.natAbs W hm (Nat.le_trans (decRev_limbs hl.1) (by decide)) (Nat.le_trans hl.1 (by decide)))
  have K2 := hide (fun W (hm : Mag W t q.den) => text_any t q.den W hm (Nat.le_trans (decRev_limbs hl.2) (by decide)) (Nat.le_trans hl.2 (by decide)))
  have HS := hide hs; have HT := hide ht; have HQ := hide hq
  clear hs ht hq hl hs2 ht2
  obtain ⟨b, hb⟩ : ∃ b : Bool, decide (q.num < 0) = b := ⟨_, rfl⟩
  obtain ⟨L1, hL1⟩ : ∃ l, decBytes q.num.natAbs = l := ⟨_, rfl⟩
  obtain ⟨L2, hL2⟩ : ∃ l, decBytes q.den = l := ⟨_, rfl⟩
  obtain ⟨x1, hx1⟩ : ∃ x : ByteArray, x = ⟨L1.toArray⟩ := ⟨_, rfl⟩
  obtain ⟨x2, hx2⟩ : ∃ x : ByteArray, x = ⟨L2.toArray⟩ := ⟨_, rfl⟩
  have hz1 : x1.size = L1.length := by rw [hx1]; show L1.toArray.size = _; simp
  have hz2 : x2.size = L2.length := by rw [hx2]; show L2.toArray.size = _; simp
  rw [hb] at HQ ⊢
  rw [hL1, ← hx1] at K1
  rw [hL2, ← hx2] at K2
  have HB := hide hb
  have HL1 := hide hL1; have HL2 := hide hL2; have HX1 := hide hx1; have HX2 := hide hx2
  have hE : numErr q = if 4000 < L1.length then 4 else if q.den = 1 then 0 else if 4000 < L2.length then 4 else 0 := by unfold numErr; rw [hL1, hL2]
  have hT : numText q = (if q.num < 0 then [45] else []) ++ L1 ++ (if q.den = 1 then [] else 47 :: L2) := by unfold numText; rw [hL1, hL2]
  have HE := hide hE; have HT' := hide hT
  clear hb hL1 hL2 hx1 hx2 hE hT
  by_cases h1 : 4000 < L1.length
  · have t1 : decide ((x1.size : Int) > 4000) = true := by simp; omega
    have e1 : numErr q = 4 := by rw [HE.out, if_pos h1]
    have e2 : numOut q = [] := by unfold numOut; rw [if_neg (by rw [e1]; decide)]
    rw [e1, e2]
    clear h1 e1 e2 hz1 hz2
    go_enter Tryz.func71, Tryz.ntmps71
    go_wp2_with fail
    refine (K1.out _ (HS.out.ext ((Below.refl _ _).alloc (Nat.le_refl _) _))).mono ?_
    rintro e w' ⟨rfl, E1⟩
    go_wp2
    go_ret2
    exact ⟨rfl, ((Below.refl _ _).alloc (Nat.le_refl _) _).trans (E1.mono (by simp))⟩
  · have t1 : decide ((x1.size : Int) > 4000) = false := by simp; omega
    have H1 := hide h1
    have hs1 : x1.size ≤ 4000 := by omega
    have HZ1 := hide hz1; have HZ2 := hide hz2
    clear h1 hz1 hz2
    go_enter Tryz.func71, Tryz.ntmps71
    go_wp2_with fail
    have hEw : Ext w (w.alloc (.cells #[.bool b, s, .bool false, t] 113)) := (Below.refl _ _).alloc (Nat.le_refl _) _
    have hBw : Blk (w.alloc (.cells #[.bool b, s, .bool false, t] 113)) w.heap.size 113 #[.bool b, s, .bool false, t] := Blk.new _ _ _
    generalize w.alloc (.cells #[.bool b, s, .bool false, t] 113) = W0 at hEw hBw ⊢
    refine (K1.out _ (HS.out.ext hEw)).mono ?_
    rintro e w1 ⟨rfl, E1⟩
    have E1' := hEw.tr E1
    have B1 := hBw.ext E1
    have c0 := B1.cell 0
    have c1 := B1.cell 1
    have c2 := B1.cell 2
    have c3 := B1.cell 3
    simp at c0 c1 c2 c3
    have K3 := hide (integer_any _ q w1 (HQ.out.ext E1'))
    clear hEw hBw E1
    obtain ⟨d, hd⟩ : ∃ d : Bool, decide (q.den = 1) = d := ⟨_, rfl⟩
    rw [hd] at K3
    have HD := hide hd
    have HT2 := hide (fun W (E : Ext w W) => K2.out W (HT.out.ext E))
    clear hd
    cases b
    all_goals
      go_wp2_with fail
      refine K3.out.mono ?_
      rintro e w2 ⟨rfl, E2⟩
      have C2 := (B1.ext E2).cell 3
      simp at C2
      cases d
      · have hd1 : ¬ q.den = 1 := of_decide_eq_false HD.out
        have e0 : numErr q = if 4000 < L2.length then 4 else 0 := by rw [HE.out, if_neg H1.out, if_neg hd1]
        have HTx := HT'.out
        rw [if_neg hd1] at HTx
        first | rw [if_neg (of_decide_eq_false HB.out)] at HTx | rw [if_pos (of_decide_eq_true HB.out)] at HTx
        have HTX := hide HTx
        have HE0 := hide e0
        clear hd1 e0 HTx
        by_cases h2 : 4000 < L2.length
        · have t2 : decide ((x2.size : Int) > 4000) = true := by simp; have := HZ2.out; omega
          have e1 : numErr q = 4 := by rw [HE0.out, if_pos h2]
          have e2 : numOut q = [] := by unfold numOut; rw [if_neg (by rw [e1]; decide)]
          have HR : Hid (numErr q = 4 ∧ numOut q = []) := ⟨e1, e2⟩
          clear h2 e1 e2
          go_wp2_with fail
          refine (HT2.out w2 (E1'.tr E2)).mono ?_
          rintro e w3 ⟨rfl, E3⟩
          go_wp2
          go_ret2
          exact ⟨num_end HR.out rfl, (E1'.tr E2).tr E3⟩
        · have t2 : decide ((x2.size : Int) > 4000) = false := by simp; have := HZ2.out; omega
          have e1 : numErr q = 0 := by rw [HE0.out, if_neg h2]
          have e2 : numOut q = numText q := by unfold numOut; rw [if_pos e1]
          have HR := hide (And.intro e1 (e2.trans HTX.out))
          have hs2 : x2.size ≤ 4000 := by have := HZ2.out; omega
          clear h2 e1 e2
          go_wp2_with fail
          refine (HT2.out w2 (E1'.tr E2)).mono ?_
          rintro e w3 ⟨rfl, E3⟩
          go_wp2
          go_ret2
          exact ⟨num_end HR.out (by rw [HX1.out, HX2.out]; ext1; simp), (E1'.tr E2).tr E3⟩
      · have hd1 : q.den = 1 := of_decide_eq_true HD.out
        have e1 : numErr q = 0 := by rw [HE.out, if_neg H1.out, if_pos hd1]
        have e2 : numOut q = numText q := by unfold numOut; rw [if_pos e1]
        have HTx := HT'.out
        rw [if_pos hd1] at HTx
        first | rw [if_neg (of_decide_eq_false HB.out)] at HTx | rw [if_pos (of_decide_eq_true HB.out)] at HTx
        have HR := hide (And.intro e1 (e2.trans HTx))
        clear hd1 e1 e2 HTx
        go_wp2_with fail
        go_ret2
        exact ⟨num_end HR.out (by rw [HX1.out]; ext1; simp), E1'.tr E2⟩

end Go.Proofs.YtncabodphjkkfaaGreat
