/- The calls at work. -/
import Derived.Test.YtncabodphjkkfaaGreatR7
import Derived.Test.YtncabodphjkkfaaGreatR3
import Derived.Test.YtncabodphjkkfaaGreatC3
import Derived.Test.YtncabodphjkkfaaGreatR8
namespace Go.Proofs.YtncabodphjkkfaaGreat
open Go.RowKit Go.Limbs Go.Shelf

def l3 : List Sq := [(0, 0, 2), (2, 0, 1), (2, 1, 1)]
def p3 : List Pr := [(0, 2), (0, 1), (1, 2)]
def A3 : List (List Rat) := augPart (lap 2 p3) (rhs 2) 2
/-- A bound by sight. -/
theorem RatLen.of {q : Rat} (h : q.num.natAbs ≤ 1000 ∧ q.den ≤ 1000) : RatLen q 4398046511104 := by
  have h1 : (limbs q.num.natAbs).length ≤ 1 := limbs_length_le (by omega)
  have h2 : (limbs q.den).length ≤ 1 := limbs_length_le (by omega)
  exact ⟨by omega, by omega⟩
theorem triOk3 : TriOk (augPart (lap 2 p3) (rhs 2) 2) 2 3 4398046511104 where
  dim := ⟨by decide +kernel, by decide +kernel⟩
  fits := by decide
  piv := by decide +kernel
  det := fun c hc => RatLen.of (by revert c; decide +kernel)
  el := fun c hc i hi j hj => RatLen.of (by revert c i j; decide +kernel)
  quot := fun c hc i hi hi2 => RatLen.of (by have h : ∀ c, c < 2 → ∀ i, i < 2 → (pivq (elimTo (augPart (lap 2 p3) (rhs 2) 2) c) c i).num.natAbs ≤ 1000 ∧ (pivq (elimTo (augPart (lap 2 p3) (rhs 2) 2) c) c i).den ≤ 1000 := (by decide +kernel); exact h c hc i hi2)
  prod := fun c hc i hi hi2 j hj hj2 => RatLen.of (by have h : ∀ c, c < 2 → ∀ i, i < 2 → ∀ j, j < 3 → (pivq (elimTo (augPart (lap 2 p3) (rhs 2) 2) c) c i * mget (elimTo (augPart (lap 2 p3) (rhs 2) 2) c) c j).num.natAbs ≤ 1000 ∧ (pivq (elimTo (augPart (lap 2 p3) (rhs 2) 2) c) c i * mget (elimTo (augPart (lap 2 p3) (rhs 2) 2) c) c j).den ≤ 1000 := (by decide +kernel); exact h c hc i hi2 j hj2)
theorem backOk3 : BackOk (elimTo (augPart (lap 2 p3) (rhs 2) 2) 2) 2 4398046511104 where
  piv := by decide +kernel
  el := fun i hi j hj => RatLen.of (by revert i j; decide +kernel)
  sum := fun k hk m hm => RatLen.of (by revert k m; decide +kernel)
  xs := fun k hk m hm => RatLen.of (by revert k m; decide +kernel)
  prod := fun k hk m hm => RatLen.of (by revert k m; decide +kernel)
theorem limbs_of {n : Nat} (h : n ≤ 1000) : (limbs n).length ≤ 4398046511104 := by
  have h1 : (limbs n).length ≤ 1 := limbs_length_le (by omega)
  omega
theorem curOk3 : CurOk (hts 3 p3) p3 4398046511104 where
  pot := fun i hi => RatLen.of (by revert i; decide +kernel)
  dx := fun j hj => RatLen.of (by revert j; decide +kernel)
  und := fun k hk => limbs_of (by revert k; decide +kernel)
  sc := fun j hj => RatLen.of (by revert j; decide +kernel)
  ovr := fun k hk => limbs_of (by revert k; decide +kernel)
  ne := by decide +kernel
  fin := fun j hj => RatLen.of (by revert j; decide +kernel)

theorem curs3 : curs (hts 3 p3) p3 = [2, 1, 1] := by decide +kernel
theorem nums3 : numsErr (curs (hts 3 p3) p3) = 0 ∧ numsOut (curs (hts 3 p3) p3) = [[50], [49], [49]] := by
  have h : ∀ q ∈ curs (hts 3 p3) p3, ¬ numErr q ≠ 0 := by decide +kernel
  have h' : ¬ ∃ q ∈ curs (hts 3 p3) p3, numErr q ≠ 0 := fun ⟨q, h1, h2⟩ => h q h1 h2
  exact ⟨by unfold numsErr; rw [if_neg h'], by unfold numsOut; rw [if_neg h']; decide +kernel⟩
theorem valid3 : ∀ p ∈ p3, ValidW 3 p := by unfold ValidW; decide
theorem reach3 : ∀ i : Nat, i < 3 → Reach p3 (i : Int) := by
  have h0 : Reach p3 0 := .zero
  have h1 : Reach p3 1 := .fwd (a := 0) (by decide) h0
  have h2 : Reach p3 2 := .fwd (a := 0) (by decide) h0
  intro i hi
  match i, hi with
  | 0, _ => exact h0
  | 1, _ => exact h1
  | 2, _ => exact h2

theorem sorted_pairwise {cf : Sq → Sq → Int} {l : List Sq} (h : SortedBy cf l) : l.Pairwise fun a b => ¬ cf b a < 0 := by
  rw [List.pairwise_iff_getElem]
  intro i j hi hj hij
  have h' := h i j hij hj
  simpa [List.getD, hi, hj] using h'
theorem readErr3 : readErr l3 = 0 := by
  unfold readErr
  rw [if_neg (by decide), if_neg (fun ⟨q, hq, hb⟩ => (show ∀ q ∈ l3, ¬ sqBad q by unfold sqBad; decide) q hq hb), if_neg, if_neg]
  · decide
  · rintro ⟨i, hi, k, hk, h⟩
    refine h ?_
    have h' : ∀ i, i < 3 → ∀ k, k < i → sqApart (sqAt l3 i) (sqAt l3 k) := by unfold sqApart; decide
    exact h' i hi k hk
theorem code3 {l' : List Sq} (hp : l'.Perm l3) (hs : SortedBy cmpSq l') : l' = l3 := by
  have h3 : SortedBy cmpSq l3 := by
    intro i j hij hj
    have h' : ∀ j, j < 3 → ∀ i, i < j → ¬ cmpSq (l3.getD j (0, 0, 0)) (l3.getD i (0, 0, 0)) < 0 := by
      intro j hj i hi
      rw [cmpSq_lt]
      revert i j; decide
    exact h' j hj i hij
  refine hp.eq_of_pairwise (le := fun a b => ¬ cmpSq b a < 0) ?_ (sorted_pairwise hs) (sorted_pairwise h3)
  intro a b ha hb h1 h2
  have ha' := hp.mem_iff.1 ha
  rw [cmpSq_lt] at h1 h2
  have key : ∀ a ∈ l3, ∀ b ∈ l3, ¬ (b.2.1 < a.2.1 ∨ b.2.1 = a.2.1 ∧ b.1 < a.1) → ¬ (a.2.1 < b.2.1 ∨ a.2.1 = b.2.1 ∧ a.1 < b.1) → a = b := by decide
  exact key a ha' b hb h1 h2
def s3 : List Ln := [(0, 0, 2), (0, 2, 3), (1, 2, 3), (1, 2, 3), (2, 0, 2), (2, 2, 3)]
theorem lines3 {s : List Ln} (hp : s.Perm (linesOf l3)) (hs : SortedBy cmpLn s) : (joinTo s (s.length - 1)).length = 3 := by
  have h3 : SortedBy cmpLn s3 := by
    intro i j hij hj
    have h' : ∀ j, j < 6 → ∀ i, i < j → ¬ cmpLn (s3.getD j (0, 0, 0)) (s3.getD i (0, 0, 0)) < 0 := by
      intro j hj i hi
      rw [cmpLn_lt]
      revert i j; decide
    exact h' j hj i hij
  have hp3 : s.Perm s3 := hp.trans (by decide)
  have he : s = s3 := by
    refine hp3.eq_of_pairwise (le := fun a b => ¬ cmpLn b a < 0) ?_ (sorted_pairwise hs) (sorted_pairwise h3)
    intro a b ha hb h1 h2
    rw [cmpLn_lt] at h1 h2
    obtain ⟨a1, a2, a3⟩ := a; obtain ⟨b1, b2, b3⟩ := b
    simp only [] at h1 h2
    have e1 : a1 = b1 := by omega
    have e2 : a2 = b2 := by omega
    have e3 : a3 = b3 := by omega
    rw [e1, e2, e3]
  rw [he]; decide
theorem lay9 : layErr 32 [18, 14, 4, 10, 15, 7, 1, 9, 8] = 0 ∧ (layOut 32 [18, 14, 4, 10, 15, 7, 1, 9, 8]).length = 9 := by
  have hb : ¬ (BadSide 32 ∨ [18, 14, 4, 10, 15, 7, 1, 9, (8 : Int)].length = 0 ∨ ∃ x ∈ [18, 14, 4, 10, 15, 7, 1, 9, (8 : Int)], BadSide x) := by
    unfold BadSide; decide
  constructor
  · unfold layErr; rw [if_neg (by decide), if_neg hb]; decide +kernel
  · unfold layOut; rw [if_neg (by decide), if_neg hb]; decide +kernel

end Go.Proofs.YtncabodphjkkfaaGreat

namespace Go.Proofs.YtncabodphjkkfaaGreat
open Go.RowKit Go.Limbs Go.Shelf

theorem ext_alloc (w : World) (o : Obj) : Ext w (w.alloc o) := (Below.refl _ _).alloc (Nat.le_refl _) _

set_option maxRecDepth 100000 in
set_option maxHeartbeats 4000000 in
theorem lives_any (w : World) : Calls Tryz.prog 17 #[] w fun e w' => e = .returned (.bool true) ∧ Ext w w' := by
  go_enter Tryz.func17, Tryz.ntmps17
  go_wp2_with fail
  have HE1 := hide (ext_alloc w (.cells #[.int .i64 0, .int .i64 0, .int .i64 2, .int .i64 2, .int .i64 0, .int .i64 1, .int .i64 2, .int .i64 1, .int .i64 1] 47))
  have hB1 := Blk.new w 47 #[.int .i64 0, .int .i64 0, .int .i64 2, .int .i64 2, .int .i64 0, .int .i64 1, .int .i64 2, .int .i64 1, .int .i64 1]
  generalize w.heap.size = gs at hB1 ⊢
  generalize w.alloc (.cells #[.int .i64 0, .int .i64 0, .int .i64 2, .int .i64 2, .int .i64 0, .int .i64 1, .int .i64 2, .int .i64 1, .int .i64 1] 47) = w1 at hB1 HE1 ⊢
  have HS : Hid (Sqs w1 (.slice (some ⟨gs, 0, none⟩) 3 3) l3) := ⟨_, 3, rfl, Nat.le_refl _, by decide, Rd.of_blk hB1 0 _ (fun j hj => by rw [Nat.zero_add]; exact List.getElem?_toArray)⟩
  clear hB1
  refine (code_any _ l3 w1 HS.out (by decide) (by decide)).mono ?_
  rintro e w2 ⟨E2, h⟩
  rcases h with ⟨hne, _⟩ | ⟨_, uc, l', rfl, hI, hp, hs⟩
  · exact absurd readErr3 hne
  obtain rfl : l' = l3 := code3 hp hs
  have HI := hide hI; have HE2 := hide (HE1.out.tr E2); have HS2 := hide (HS.out.ext E2)
  clear hI hp hs E2 HE1 HS
  go_wp2_with fail
  refine (network_any _ l3 w2 HS2.out (by decide) (by decide)).mono ?_
  rintro e w3 ⟨E3, h⟩
  rcases h with ⟨hne, _⟩ | ⟨_, un, l', s, he, hn, hp, hs, hps, hss⟩
  · exact absurd readErr3 hne
  obtain rfl : l' = l3 := code3 hp hs
  have hJl : ((joinTo s (s.length - 1)).length : Int) = 3 := by rw [lines3 hps hss]; rfl
  rw [hJl] at he
  subst he
  obtain ⟨An, cn, rfl, _, _, _⟩ := hn
  rw [show (pairsOf (joinTo s (s.length - 1)) l3).length = 3 from rfl]
  have HI3 := hide (HI.out.ext E3); have HE3 := hide (HE2.out.tr E3)
  clear hp hs hps hss hJl E3 HE2 HS2 HI
  go_wp2_with fail
  have HE4 := hide (HE3.out.tr (ext_alloc w3 (.cells #[.int .i64 0, .int .i64 2, .int .i64 0, .int .i64 1, .int .i64 1, .int .i64 2] 40)))
  have HI4 := hide (HI3.out.ext (ext_alloc w3 (.cells #[.int .i64 0, .int .i64 2, .int .i64 0, .int .i64 1, .int .i64 1, .int .i64 2] 40)))
  have hB4 := Blk.new w3 40 #[.int .i64 0, .int .i64 2, .int .i64 0, .int .i64 1, .int .i64 1, .int .i64 2]
  generalize w3.heap.size = gp at hB4 ⊢
  generalize w3.alloc (.cells #[.int .i64 0, .int .i64 2, .int .i64 0, .int .i64 1, .int .i64 1, .int .i64 2] 40) = w4 at hB4 HE4 HI4 ⊢
  have hP : Prs w4 (.slice (some ⟨gp, 0, none⟩) 3 3) p3 := ⟨_, 3, rfl, Nat.le_refl _, by decide, Rd.of_blk hB4 0 _ (fun j hj => by rw [Nat.zero_add]; exact List.getElem?_toArray)⟩
  have HC := currents_ok _ 3 p3 w4 hP (by decide) (by decide) (by decide) valid3 reach3 (by decide) triOk3 backOk3 curOk3
  rw [nums3.1, nums3.2] at HC
  replace HC := hide HC
  clear hB4 hP HE3 HI3
  refine HC.out.mono ?_
  rintro e w5 ⟨ut, rfl, ht, E5⟩
  have HT := hide ht; have HE5 := hide (HE4.out.tr E5); have HI5 := hide (HI4.out.ext E5)
  clear ht E5 HE4 HI4 HC
  go_wp2_with fail
  have HE6 := hide (HE5.out.tr (ext_alloc w5 (.cells #[.int .i64 18, .int .i64 14, .int .i64 4, .int .i64 10, .int .i64 15, .int .i64 7, .int .i64 1, .int .i64 9, .int .i64 8] 3)))
  have HI6 := hide (HI5.out.ext (ext_alloc w5 (.cells #[.int .i64 18, .int .i64 14, .int .i64 4, .int .i64 10, .int .i64 15, .int .i64 7, .int .i64 1, .int .i64 9, .int .i64 8] 3)))
  have HT6 := hide (HT.out.ext (ext_alloc w5 (.cells #[.int .i64 18, .int .i64 14, .int .i64 4, .int .i64 10, .int .i64 15, .int .i64 7, .int .i64 1, .int .i64 9, .int .i64 8] 3)))
  have hB6 := Blk.new w5 3 #[.int .i64 18, .int .i64 14, .int .i64 4, .int .i64 10, .int .i64 15, .int .i64 7, .int .i64 1, .int .i64 9, .int .i64 8]
  generalize w5.heap.size = gi at hB6 ⊢
  generalize w5.alloc (.cells #[.int .i64 18, .int .i64 14, .int .i64 4, .int .i64 10, .int .i64 15, .int .i64 7, .int .i64 1, .int .i64 9, .int .i64 8] 3) = w6 at hB6 HE6 HI6 HT6 ⊢
  have hL := lay_any (.slice (some ⟨gi, 0, none⟩) 9 9) 32 [18, 14, 4, 10, 15, 7, 1, 9, 8] w6 ⟨_, 9, rfl, Nat.le_refl _, by decide, Rd.of_blk hB6 0 _ (fun j hj => by rw [Nat.zero_add]; exact List.getElem?_toArray)⟩
  rw [lay9.1] at hL
  replace hL := hide hL
  clear hB6 HE5 HI5 HT
  refine hL.out.mono ?_
  rintro e w7 ⟨ul, rfl, hl, E7⟩
  obtain ⟨Al, cl, rfl, _, _, _⟩ := hl
  rw [lay9.2]
  have HT7 := hide (HT6.out.ext E7); have HE7 := hide (HE6.out.tr E7); have HI7 := hide (HI6.out.ext E7)
  clear E7 HE6 HI6 HT6 hL
  go_wp2_with fail
  have HE8 := hide (HE7.out.tr (ext_alloc w7 (.cells #[.int .i64 2, .int .i64 1, .int .i64 1] 3)))
  have HI8 := hide (HI7.out.ext (ext_alloc w7 (.cells #[.int .i64 2, .int .i64 1, .int .i64 1] 3)))
  have HT8 := hide (HT7.out.ext (ext_alloc w7 (.cells #[.int .i64 2, .int .i64 1, .int .i64 1] 3)))
  have hB8 := Blk.new w7 3 #[.int .i64 2, .int .i64 1, .int .i64 1]
  generalize w7.heap.size = gk at hB8 ⊢
  generalize w7.alloc (.cells #[.int .i64 2, .int .i64 1, .int .i64 1] 3) = w8 at hB8 HE8 HI8 HT8 ⊢
  have hM := sameI_any uc (.slice (some ⟨gk, 0, none⟩) 3 3) _ [2, 1, 1] w8 HI8.out ⟨_, 3, rfl, Nat.le_refl _, by decide, Rd.of_blk hB8 0 _ (fun j hj => by rw [Nat.zero_add]; exact List.getElem?_toArray)⟩
  rw [decide_eq_true (show (l3.map fun q => q.2.2) = [2, 1, 1] from rfl)] at hM
  replace hM := hide hM
  clear hB8 HE7 HI7 HT7
  refine hM.out.mono ?_
  rintro e w9 ⟨rfl, E9⟩
  have HT9 := hide (HT8.out.ext E9); have HE9 := hide (HE8.out.tr E9)
  clear E9 HE8 HI8 HT8 hM
  go_wp2_with fail
  have HEa := hide (HE9.out.tr (ext_alloc w9 (.cells #[.string ⟨#[50]⟩, .string ⟨#[49]⟩, .string ⟨#[49]⟩] 52)))
  have HTa := hide (HT9.out.ext (ext_alloc w9 (.cells #[.string ⟨#[50]⟩, .string ⟨#[49]⟩, .string ⟨#[49]⟩] 52)))
  have hBa := Blk.new w9 52 #[.string ⟨#[50]⟩, .string ⟨#[49]⟩, .string ⟨#[49]⟩]
  generalize w9.heap.size = gt at hBa ⊢
  generalize w9.alloc (.cells #[.string ⟨#[50]⟩, .string ⟨#[49]⟩, .string ⟨#[49]⟩] 52) = wa at hBa HEa HTa ⊢
  have hM := sameRow_any ut (.slice (some ⟨gt, 0, none⟩) 3 3) _ [[50], [49], [49]] wa HTa.out ⟨_, 3, rfl, Nat.le_refl _, by decide, Rd.of_blk hBa 0 _ (fun j hj => by rw [Nat.zero_add]; exact List.getElem?_toArray)⟩
  rw [decide_eq_true rfl] at hM
  replace hM := hide hM
  clear hBa HE9 HT9
  refine hM.out.mono ?_
  rintro e wb ⟨rfl, Eb⟩
  have HEb := hide (HEa.out.tr Eb)
  clear Eb HEa HTa hM
  go_wp2
  go_ret
  exact ⟨rfl, HEb.out⟩

end Go.Proofs.YtncabodphjkkfaaGreat
