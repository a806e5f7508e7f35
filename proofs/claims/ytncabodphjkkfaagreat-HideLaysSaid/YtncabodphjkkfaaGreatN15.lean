/- The text of a size: its decimal digits. Conditions: none. -/
import Derived.Test.YtncabodphjkkfaaGreatDec
import Derived.Test.YtncabodphjkkfaaGreatN4
import Derived.Test.YtncabodphjkkfaaGreatApp
import Derived.Deep.LoopGhost
import Derived.Lib.SlBytesRow
namespace Go.Proofs.YtncabodphjkkfaaGreat
open Go.RowKit Go.Limbs Go.Dec

def byt (n : Nat) : Value := .int .u8 (n : Int)

theorem mirror_done (xs ys : List Value) (n i : Nat) (hx : xs.length = n) (hy : ys.length = n) (hi : n ≤ 2 * i + 1)
    (h : ∀ k, k < n → ys[k]? = if k < i ∨ n - 1 - i < k then xs[n - 1 - k]? else xs[k]?) : ys = xs.reverse := by
  apply List.ext_getElem?
  intro k
  by_cases hk : k < n
  · rw [h k hk, List.getElem?_reverse (by omega), hx]
    split
    · rfl
    · rename_i hn
      rw [show n - 1 - k = k by omega]
  · rw [List.getElem?_eq_none (by omega), List.getElem?_eq_none (by simp; omega)]

set_option maxHeartbeats 1000000 in
theorem reverse_any (base g cap : Nat) (bs : List Nat) (w : World) (h : w.ownsRow base 5 1 (.slice (some ⟨g, 0, none⟩) bs.length cap) bs.length (bs.map byt)) (hl : bs.length ≤ 1152921504606846976) :
    Calls Tryz.prog 145 #[.slice (some ⟨g, 0, none⟩) bs.length cap] w fun e w' => e = .returned (.tuple #[]) ∧ w'.ownsRow base 5 1 (.slice (some ⟨g, 0, none⟩) bs.length cap) bs.length (bs.reverse.map byt) ∧ w.grownBy w' (some g) := by
  have H := hide h
  clear h
  go_enter Tryz.func145, Tryz.ntmps145
  go_wp2_with fail
  go_loopw [2, 3] (fun a b wr => ∃ (i : Nat) (cs : List Nat), a = .int .i64 (i : Int) ∧ b = .int .i64 ((bs.length : Int) - 1 - i) ∧ i ≤ bs.length ∧ cs.length = bs.length ∧ wr.ownsRow base 5 1 (.slice (some ⟨g, 0, none⟩) bs.length cap) bs.length (cs.map byt) ∧ w.grownBy wr (some g) ∧
      ∀ k, k < bs.length → (cs.map byt)[k]? = if k < i ∨ bs.length - 1 - i < k then (bs.map byt)[bs.length - 1 - k]? else (bs.map byt)[k]?) (fun a _ _ => bs.length - (intOf a).toNat)
  case atStart =>
    exact ⟨0, bs, rfl, by simp, Nat.zero_le _, rfl, H.out, grown_refl _ _, fun k hk => by rw [if_neg (by omega)]⟩
  case round =>
    obtain ⟨i, cs, rfl, rfl, hi, hcl, hown, hG, hmir⟩ := hrel
    have HM := hide hmir
    clear hmir
    by_cases hlt : 2 * i + 1 < bs.length
    · obtain ⟨j, hj⟩ : ∃ j : Nat, (bs.length : Int) - 1 - i = (j : Int) := ⟨bs.length - 1 - i, by omega⟩
      have hjl : j < bs.length := by omega
      have hij : i < j := by omega
      have hci := hown.cellAt i (by omega)
      have hcj := hown.cellAt j (by omega)
      have hfi := hown.frozenAt i
      have hfj := hown.frozenAt j
      have e1 : (cs.map byt)[i]? = some (.int .u8 ((cs.getD i 0 : Nat) : Int)) := by simp [byt, List.getD, show i < cs.length by omega]
      have e2 : (cs.map byt)[j]? = some (.int .u8 ((cs.getD j 0 : Nat) : Int)) := by simp [byt, List.getD, show j < cs.length by omega]
      rw [e1] at hci
      rw [e2] at hcj
      clear e1 e2
      obtain ⟨x, hx⟩ : ∃ x, cs.getD i 0 = x := ⟨_, rfl⟩
      obtain ⟨y, hy⟩ : ∃ y, cs.getD j 0 = y := ⟨_, rfl⟩
      rw [hx] at hci
      rw [hy] at hcj
      have HX := hide hx; have HY := hide hy; have HJ := hide hj; have HOwn := hide hown
      rw [hj]
      clear hx hy hj hown
      have i1 : (i : Int) < j := by omega
      go_wp2_with fail
      go_region
      have s1 := HOwn.out.stored i (.int .u8 (y : Int))
      have s2 := s1.1.stored j (.int .u8 (x : Int))
      have e : ((cs.map byt).set i (.int .u8 (y : Int))).set j (.int .u8 (x : Int)) = ((cs.set i y).set j x).map byt := by simp [List.map_set, byt]
      have hown2 := s2.1
      rw [e] at hown2
      have hG2 := grown_drew (grown_trans (grown_trans hG s1.2) s2.2)
      have HE := hide e
      clear s1 s2 e
      go_wp2
      go_roundw
      case rel =>
        have hjv : j = bs.length - 1 - i := by have := HJ.out; omega
        refine ⟨i + 1, (cs.set i y).set j x, by go_num, by rw [← HJ.out]; go_num, by omega, by simp [hcl], hown2, hG2, ?_⟩
        intro k hk
        have hm := HM.out k hk
        have hmi := HM.out i (by omega)
        have hmj := HM.out j hjl
        rw [← HE.out, List.getElem?_set, List.getElem?_set]
        simp only [List.length_set, List.length_map, hcl]
        have ei : (cs.map byt)[i]? = some (.int .u8 (x : Int)) := by rw [← HX.out]; simp [byt, List.getD, show i < cs.length by omega]
        have ej : (cs.map byt)[j]? = some (.int .u8 (y : Int)) := by rw [← HY.out]; simp [byt, List.getD, show j < cs.length by omega]
        rw [if_neg (by omega)] at hmi hmj
        by_cases h1 : j = k
        · subst h1
          rw [if_pos rfl, if_pos hjl, if_pos (by omega), show bs.length - 1 - j = i by omega, ← hmi, ei]
        · rw [if_neg h1]
          by_cases h2 : i = k
          · subst h2
            rw [if_pos rfl, if_pos (by omega), if_pos (by omega), ← hjv, ← hmj, ej]
          · rw [if_neg h2, hm]
            by_cases h3 : k < i ∨ bs.length - 1 - i < k
            · rw [if_pos h3, if_pos (by omega)]
            · rw [if_neg h3, if_neg (by omega)]
      case measure => simp [intOf]; omega
    · have hx : ¬ ((i : Int) < (bs.length : Int) - 1 - i) := by omega
      have hd : cs.map byt = (bs.map byt).reverse := mirror_done (bs.map byt) (cs.map byt) bs.length i (by simp) (by simp [hcl]) (by omega) HM.out
      have HD := hide hd
      have HOwn := hide hown
      clear hd hown
      go_wp2
      go_end0
      refine ⟨rfl, ?_, hG⟩
      have h := HOwn.out
      rw [HD.out] at h
      first | exact h | (rw [← List.map_reverse] at h; exact h)

theorem Rd.kept {w w' : World} {T T' : TypeId} {A : Option Addr} {xs : List Value} {row : Option Nat} (h : Rd w T A xs) (hg : w.grownBy w' row) (hr : ∀ g, row = some g → TyBlk w g T') (hne : T ≠ T') : Rd w' T A xs := fun hx => by
  obtain ⟨b, off, hA, hlt, hc⟩ := h hx
  have hb : some b ≠ row := fun e => hlt.ne (hr b e.symm) hne rfl
  have hblk := hg.block b hlt.lt hb
  refine ⟨b, off, hA, ?_, fun j hj => (World.cell?_of_block (w := w) (a := ⟨b, off + j, none⟩) hblk).trans (hc j hj)⟩
  obtain ⟨cs, fr, hh⟩ := hlt
  exact ⟨cs, fr, hblk.trans hh⟩
theorem own_ty {w : World} {base size n : Nat} {e : TypeId} {v : Value} {xs : List Value} (h : w.ownsRow base e size v n xs) : ∀ g, v.ownBlock = some g → TyBlk w g e := by
  intro g hg
  rcases h.2 with ⟨rfl, _⟩ | ⟨g', cap, cur, rfl, hb, hgg, _⟩
  · simp [Value.ownBlock] at hg
  · simp [Value.ownBlock] at hg
    subst hg
    exact ⟨_, _, hgg⟩
theorem Mag.kept {w w' : World} {v u : Value} {n base size k : Nat} {e : TypeId} {xs : List Value} (h : Mag w v n) (ho : w.ownsRow base e size u k xs) (hg : w.grownBy w' u.ownBlock) (hne : 163 ≠ e) : Mag w' v n := by
  obtain ⟨A, cap, hv, h1, h2, h3, h4⟩ := h
  exact ⟨A, cap, hv, h1, h2, h3, h4.kept hg (own_ty ho) hne⟩

theorem own_ext0 {w w' : World} {base size n : Nat} {e : TypeId} {v : Value} {xs : List Value} (h : w.ownsRow base e size v n xs) (E : Ext w w') : w'.ownsRow base e size v n xs :=
  h.kept (row := none) ⟨E.os, E.tape, E.output, E.size, fun g hg _ => E.block g hg⟩ (Decidable.em _)
theorem below_grown' {B : Nat} {w0 w w' : World} {row : Option Nat} (h : Below B w0 w) (hg : w.grownBy w' row) (hr : ∀ g, row = some g → B ≤ g) (hB : B ≤ w.heap.size := by first | exact Below.size (by assumption) | omega) : Below B w0 w' := h.grown hg hB hr
def dig (d : Nat) : Value := byt (48 + d)
theorem info5 : (Tryz.prog.info? 5).map (fun i => (i.zero, i.size, i.bytes)) = some (some (.int .u8 0), 1, 1) := by kernel_rfl

set_option maxRecDepth 100000 in
set_option maxHeartbeats 2000000 in
theorem text_any (v : Value) (n0 : Nat) (w : World) (hv : Mag w v n0) (hlen : (decRev n0).length ≤ 70368744177664) (hlim : (limbs n0).length ≤ 35184372088832) :
    Calls Tryz.prog 120 #[v] w fun e w' => e = .returned (.string ⟨(decBytes n0).toArray⟩) ∧ Ext w w' := by
  by_cases h0 : n0 = 0
  · subst h0
    obtain ⟨A, cap, rfl, h1, h2, h3, h4⟩ := hv
    have e : (limbs 0).length = 0 := by rw [limbs_zero]; rfl
    rw [e]
    clear h1 h2 h3 h4 e
    go_enter Tryz.func120, Tryz.ntmps120
    go_wp2
    go_ret
    exact ⟨rfl, Ext.rfl' _⟩
  · have HV := hide hv
    obtain ⟨A, cap, rfl, h1, h2, h3, h4⟩ := hv
    have hl0 : (limbs n0).length ≠ 0 := fun e => h0 (limbs_eq_nil.1 (List.length_eq_zero_iff.1 e))
    have t1 : (((limbs n0).length : Int) == 0) = false := by simp; exact fun e => hl0 (by simp [e])
    have HL := hide hlen
    have hlim0 := hide hlim
    clear hlim
    clear h1 h2 h3 h4 hlen
    go_enter Tryz.func120, Tryz.ntmps120
    go_wp2_with fail
    go_loopg [0, 3] n0 (fun N s0 s3 wr => ∃ (n : Nat) (ds : List Nat), n ≤ N ∧ n ≤ n0 ∧ Mag wr s0 n ∧ wr.ownsRow w.heap.size 5 1 s3 ds.length (ds.map dig) ∧ decRev n0 = ds ++ decRev n ∧ Ext w wr)
    case atStart => exact ⟨n0, [], Nat.le_refl _, Nat.le_refl _, HV.out, World.ownsRow_nil _ _ _ _, rfl, Ext.rfl' _⟩
    case round =>
      obtain ⟨n, ds, hnN, hnn, hm, hown, hdec, hE⟩ := hrel
      have HLim := hide (Nat.le_trans (limbs_length_mono hnn) hlim0.out)
      have HNN := hide hnn
      clear hnn
      have HM := hide hm
      obtain ⟨A1, c1, rfl, h1, h2, h3, h4⟩ := hm
      have HDec := hide hdec
      have HOwn := hide hown
      have HEx := hide hE
      obtain ⟨L, hL⟩ : ∃ L, (limbs n).length = L := ⟨_, rfl⟩
      have hLn : L = 0 ↔ n = 0 := by rw [← hL, List.length_eq_zero_iff, limbs_eq_nil]
      rw [hL] at HM ⊢
      have HLn := hide hLn
      clear h1 h2 h3 h4 hdec hown hE hL hLn
      by_cases hn : L = 0
      · subst hn
        have hd0 : decRev n0 = ds := by have h := HDec.out; rw [HLn.out.1 rfl, decRev_zero, List.append_nil] at h; exact h
        have hdl : 0 < ds.length := by
          rcases Nat.eq_zero_or_pos ds.length with h | h
          · exfalso
            rw [List.length_eq_zero_iff.1 h, decRev_pos h0] at hd0
            cases hd0
          · exact h
        obtain ⟨g, cp, hv3, hg1, hg2⟩ := HOwn.out.form hdl
        subst hv3
        have hrev := reverse_any w.heap.size g cp (ds.map (48 + ·)) wr (by
          have h := HOwn.out
          rw [List.length_map, List.map_map]
          exact h) (by rw [List.length_map, ← hd0]; have := HL.out; omega)
        rw [List.length_map] at hrev
        have HRev := hide hrev
        have HD0 := hide hd0
        clear hrev hd0
        go_wp2_with fail
        refine HRev.out.mono ?_
        rintro e w2 ⟨rfl, hown2, hG2⟩
        have hsize : (⟨(decBytes n0).toArray⟩ : ByteArray).size = ds.length := by
          show (decBytes n0).toArray.size = _
          unfold decBytes
          rw [if_neg h0, HD0.out]; simp
        have hby : Lib.Bytes w2 g 0 ⟨(decBytes n0).toArray⟩ := by
          intro i hi
          rw [hsize] at hi
          rw [Nat.zero_add, hown2.cellAt i (by omega)]
          have e : (⟨(decBytes n0).toArray⟩ : ByteArray)[i]'(by rw [hsize]; exact hi) = (48 + ds.reverse[i]'(by simp; exact hi)).toUInt8 := by
            show (decBytes n0).toArray[i]'_ = _
            simp [decBytes, h0, HD0.out]
          rw [e]
          have hd10 : ds.reverse[i]'(by simp; exact hi) < 10 := decRev_lt n0 _ (by rw [HD0.out]; exact List.mem_reverse.1 (List.getElem_mem _))
          have e2 : (List.map byt (List.map (fun x => 48 + x) ds).reverse)[i]? = some (byt (48 + ds.reverse[i]'(by simp; exact hi))) := by
            simp [byt, hi]
          rw [e2, byt]
          congr 2
          rw [UInt8.toNat_ofNat_of_lt' (Nat.lt_of_lt_of_le (Nat.add_lt_add_left hd10 48) (by decide))]
        have kc := Lib.run_convert_whole (P := Tryz.prog) w2 42 5 9 Tryz.underlying42 Tryz.underlying5 Tryz.underlying9 g 0 _ hby cp
        rw [hsize] at kc
        have hE2 : Ext w w2 := below_grown' HEx.out hG2 (by intro k hk; injection hk with hk; omega)
        clear hown2 hsize hby
        go_wp2
        go_ret
        exact ⟨rfl, hE2⟩
      · have hLp : 0 < L := by omega
        have hbw := byWord_any _ n 1000000000 wr HM.out (by decide) (by decide) HLim.out
        obtain ⟨r0, hr0⟩ : ∃ r, n % 1000000000 = r := ⟨_, rfl⟩
        obtain ⟨n2, hn2⟩ : ∃ m, n / 1000000000 = m := ⟨_, rfl⟩
        rw [hr0, hn2] at hbw
        have HBw := hide hbw
        have HR0 := hide hr0; have HN2 := hide hn2
        clear hbw hr0 hn2
        go_wp2_with fail
        refine HBw.out.mono ?_
        rintro e w2 ⟨v2, rfl, hm2, hE2⟩
        have HM2 := hide hm2
        obtain ⟨A2, c2, rfl, h1, h2, h3, h4⟩ := hm2
        obtain ⟨L2, hL2⟩ : ∃ L, (limbs n2).length = L := ⟨_, rfl⟩
        have hLn2 : L2 = 0 ↔ n2 = 0 := by rw [← hL2, List.length_eq_zero_iff, limbs_eq_nil]
        rw [hL2] at HM2 ⊢
        have HLn2 := hide hLn2
        have HOwn2 := hide (own_ext0 HOwn.out hE2)
        have HEx2 := hide (HEx.out.tr hE2)
        clear h1 h2 h3 h4 hL2 hLn2 hE2
        go_wp2_with fail
        go_loopw [3, 5, 6] (fun s3 r i wq => ∃ (k r' : Nat) (es : List Nat), k ≤ 9 ∧ i = .int .i64 (k : Int) ∧ r = .int .u32 (r' : Int) ∧ r' < 10 ^ (9 - k) ∧ wq.ownsRow w.heap.size 5 1 s3 es.length (es.map dig) ∧ decRev n0 = es ++ decRev (n2 * 10 ^ (9 - k) + r') ∧
            Mag wq (.slice A2 L2 c2) n2 ∧ Ext w wq) (fun _ _ i _ => 9 - (intOf i).toNat)
        case atStart =>
          refine ⟨0, r0, ds, by omega, rfl, rfl, ?_, HOwn2.out, ?_, HM2.out, HEx2.out⟩
          · rw [← HR0.out]; exact Nat.mod_lt _ (by decide)
          · rw [HDec.out]
            congr 2
            rw [← HR0.out, ← HN2.out]
            have := Nat.div_add_mod n 1000000000
            rw [show (10 : Nat) ^ (9 - 0) = 1000000000 from rfl]
            omega
        case round =>
          obtain ⟨k, r', es, hk, rfl, rfl, hrl, hown, hdec, hmg, hE⟩ := hrel
          have HRl := hide hrl; have HOw := hide hown; have HDc := hide hdec; have HMg := hide hmg; have HE := hide hE
          clear hrl hown hdec hmg hE
          by_cases hgo : k < 9 ∧ (0 < L2 ∨ 0 < r')
          · obtain ⟨hk9, hor⟩ := hgo
            have hp : 10 ^ (9 - k) = 10 * 10 ^ (9 - (k + 1)) := by rw [show 9 - k = (9 - (k + 1)) + 1 by omega, Nat.pow_succ, Nat.mul_comm]
            have hne : n2 * (10 * 10 ^ (9 - (k + 1))) + r' ≠ 0 := by
              rcases hor with h | h
              · have h1 : n2 ≠ 0 := fun e => by have := HLn2.out.2 e; omega
                have h2 : 0 < n2 * (10 * 10 ^ (9 - (k + 1))) := Nat.mul_pos (by omega) (Nat.mul_pos (by decide) (Nat.pow_pos (by decide)))
                omega
              · omega
            have hstep := decRev_step n2 r' (10 ^ (9 - (k + 1))) hne
            have hr32 : r' < 1000000000 := Nat.lt_of_lt_of_le HRl.out (Nat.pow_le_pow_right (by decide) (by omega) : 10 ^ (9 - k) ≤ 10 ^ 9)
            obtain ⟨d, hd⟩ : ∃ d, r' % 10 = d := ⟨_, rfl⟩
            obtain ⟨q, hq⟩ : ∃ q, r' / 10 = q := ⟨_, rfl⟩
            have hd10 : d < 10 := by omega
            have f1 : ((r' : Int) % 10) = (d : Int) := by omega
            have f2 : ((r' : Int) / 10) = (q : Int) := by omega
            have hqp : q < 10 ^ (9 - (k + 1)) := by
              have := HRl.out
              rw [hp] at this
              omega
            have f3 : (48 + (d : Int)) % 4294967296 = 48 + (d : Int) := by omega
            have f4 : (48 + (d : Int)) % 256 = 48 + (d : Int) := by omega
            have HP := hide hp; have HStep := hide hstep; have HQP := hide hqp; have HD := hide hd; have HQ := hide hq
            clear hp hne hstep hqp hd hq
            obtain ⟨i0, hi, hz0, hz1, hz2⟩ := info_parts info5
            have hel : es.length ≤ 70368744177664 := by
              have h := HL.out
              rw [HDc.out, List.length_append] at h
              omega
            have hsw0 : w.heap.size ≤ wr.heap.size := HE.out.size
            have hEa : Ext wr (wr.alloc (.cells #[.int .u8 (48 + (d : Int))] 5)) := (Below.refl _ _).alloc (Nat.le_refl _) _
            have hsw : w.heap.size ≤ (wr.alloc (.cells #[.int .u8 (48 + (d : Int))] 5)).heap.size := Nat.le_trans hsw0 hEa.size
            have HOw1 := hide (HOw.out.alloc (.cells #[.int .u8 (48 + (d : Int))] 5))
            have hsrc : Rd (wr.alloc (.cells #[.int .u8 (48 + (d : Int))] 5)) 5 (some ⟨wr.heap.size, 0, none⟩) [dig d] := Rd.of_blk (Blk.new _ _ _) 0 _ (fun j hj => by
              have : j = 0 := by simpa using hj
              subst this
              simp [dig, byt])
            have HRd := hide (hsrc.reads 1 1 rfl (by omega))
            clear hsrc
            by_cases hL2 : 0 < L2
            · go_wp2_with (at_builtin; refine App.wpList_append_any _ rfl (.tmp 31) (.tmp 36) 42 rfl w.heap.size 5 i0 _ 1 1 Tryz.underlying42 hi hz0 hz1 hz2 rfl (by omega) u3 es.length (es.map dig) rfl HOw1.out _ _ 1 1 _ rfl HRd.out (by intro u hu; simp at hu; subst hu; rfl) (by simp only [maxLen]; omega) (by omega) hsw ?_; intro v1 w1 hown1 hg1 hat1)
              have hm1 : Mag w1 (.slice A2 L2 c2) n2 := (HMg.out.ext hEa).kept HOw1.out hg1 (by decide)
              have hE1 : Ext w w1 := below_grown' (HE.out.tr hEa) hg1 (fun g hg => (HOw1.out.lt g hg).1) hsw
              have HOwn1 := hide hown1
              have HM1 := hide hm1; have HE1 := hide hE1
              clear hown1 hg1 hat1 hm1 hE1
              go_wp2_with fail
              go_roundw
              case rel =>
                refine ⟨k + 1, q, es ++ [d], by omega, by go_num, by first | rfl | go_num, HQP.out, ?_, ?_, HM1.out, HE1.out⟩
                · have h := HOwn1.out
                  rw [List.map_append, List.length_append]
                  exact h
                · rw [HDc.out, HP.out, HStep.out, HD.out, HQ.out, List.append_assoc]; rfl
              case measure => simp [intOf]; omega
            · have hr0 : 0 < r' := by omega
              go_wp2_with (at_builtin; refine App.wpList_append_any _ rfl (.tmp 31) (.tmp 36) 42 rfl w.heap.size 5 i0 _ 1 1 Tryz.underlying42 hi hz0 hz1 hz2 rfl (by omega) u3 es.length (es.map dig) rfl HOw1.out _ _ 1 1 _ rfl HRd.out (by intro u hu; simp at hu; subst hu; rfl) (by simp only [maxLen]; omega) (by omega) hsw ?_; intro v1 w1 hown1 hg1 hat1)
              have hm1 : Mag w1 (.slice A2 L2 c2) n2 := (HMg.out.ext hEa).kept HOw1.out hg1 (by decide)
              have hE1 : Ext w w1 := below_grown' (HE.out.tr hEa) hg1 (fun g hg => (HOw1.out.lt g hg).1) hsw
              have HOwn1 := hide hown1
              have HM1 := hide hm1; have HE1 := hide hE1
              clear hown1 hg1 hat1 hm1 hE1
              go_wp2_with fail
              go_roundw
              case rel =>
                refine ⟨k + 1, q, es ++ [d], by omega, by go_num, by first | rfl | go_num, HQP.out, ?_, ?_, HM1.out, HE1.out⟩
                · have h := HOwn1.out
                  rw [List.map_append, List.length_append]
                  exact h
                · rw [HDc.out, HP.out, HStep.out, HD.out, HQ.out, List.append_assoc]; rfl
              case measure => simp [intOf]; omega
          · have hend : n2 * 10 ^ (9 - k) + r' = n2 := by
              have h := HRl.out
              by_cases hk9 : k = 9
              · subst hk9
                simp at h
                subst h
                simp
              · have h1 : L2 = 0 := by omega
                have h2 : r' = 0 := by omega
                rw [HLn2.out.1 h1, h2]; simp
            have HEnd := hide hend
            clear hend
            have hfin : k < 9 → L2 = 0 ∧ r' = 0 := fun h => by omega
            by_cases hk9 : k < 9
            · obtain ⟨rfl, rfl⟩ := hfin hk9
              clear hgo hfin
              go_wp2_with fail
              go_roundg n2
              case measure =>
                have h1 := HN2.out
                have h2 : n ≠ 0 := fun e => hn (HLn.out.2 e)
                omega
              case rel =>
                refine ⟨n2, es, Nat.le_refl _, ?_, HMg.out, HOw.out, ?_, HE.out⟩
                · have h1 := HN2.out
                  have h2 := HNN.out
                  omega
                · have h := HDc.out
                  rw [HEnd.out] at h
                  exact h
            · clear hfin hgo
              obtain rfl : k = 9 := by omega
              go_wp2_with fail
              go_roundg n2
              case measure =>
                have h1 := HN2.out
                have h2 : n ≠ 0 := fun e => hn (HLn.out.2 e)
                omega
              case rel =>
                refine ⟨n2, es, Nat.le_refl _, ?_, HMg.out, HOw.out, ?_, HE.out⟩
                · have h1 := HN2.out
                  have h2 := HNN.out
                  omega
                · have h := HDc.out
                  rw [HEnd.out] at h
                  exact h

end Go.Proofs.YtncabodphjkkfaaGreat
