/- One digit of a quotient, by Knuth's algorithm D. Conditions: none. -/
import Derived.Test.YtncabodphjkkfaaGreatN5
import Derived.Test.YtncabodphjkkfaaGreatKnuth
import Derived.Deep.DeepCutAuto
import Derived.Deep.CutBlock
import Derived.StillTailTactics
import Derived.Deep.RegionWith
namespace Go.Proofs.YtncabodphjkkfaaGreat
open Go.RowKit Go.Limbs

theorem seg_get (pre us post : List Nat) (i : Nat) (h : i < us.length) : (pre ++ us ++ post).getD (pre.length + i) 0 = us.getD i 0 := by
  rw [List.append_assoc, List.getD, List.getElem?_append_right (by omega), Nat.add_sub_cancel_left, List.getElem?_append_left h, List.getD]
theorem seg_set (pre us post : List Nat) (i x : Nat) (h : i < us.length) : (pre ++ us ++ post).set (pre.length + i) x = pre ++ us.set i x ++ post := by
  rw [List.append_assoc, List.set_append_right _ _ (by omega), Nat.add_sub_cancel_left, List.set_append_left _ _ h, List.append_assoc]
theorem seg_cell {w : World} {g : Nat} {pre us post : List Nat} (h : Blk w g 163 (rowL (pre ++ us ++ post))) (i : Nat) (hi : i < us.length) : w.cell? ⟨g, pre.length + i, none⟩ = some (.int .u32 ((us.getD i 0 : Nat) : Int)) := by
  rw [h.cell, rowL_get (by simp; omega), seg_get _ _ _ _ hi]

set_option maxRecDepth 100000 in
set_option maxHeartbeats 2000000 in
theorem digit_any (g gv offv cap capv m : Nat) (pre us post vs : List Nat) (w : World) (hB : Blk w g 163 (rowL (pre ++ us ++ post))) (hus : us.length = m + 3) (hvs : vs.length = m + 2) (hul : ∀ z ∈ us, z < 4294967296) (hvl : ∀ z ∈ vs, z < 4294967296)
    (hv1 : 2147483648 ≤ vs.getD (m + 1) 0) (hlt : val us < val vs * 4294967296) (hgv : gv ≠ g) (hgl : gv < w.heap.size) (hvc : ∀ j, j < m + 2 → w.cell? ⟨gv, offv + j, none⟩ = some (.int .u32 ((vs.getD j 0 : Nat) : Int))) (hm : m ≤ 35184372088832) :
    Calls Tryz.prog 140 #[.slice (some ⟨g, pre.length, none⟩) (m + 3) cap, .slice (some ⟨gv, offv, none⟩) (m + 2) capv] w fun e w' => ∃ us' : List Nat, e = .returned (.int .u32 ((val us / val vs : Nat) : Int)) ∧ us'.length = m + 3 ∧ (∀ z ∈ us', z < 4294967296) ∧
      val us' = val us % val vs ∧ Blk w' g 163 (rowL (pre ++ us' ++ post)) ∧ w.grownBy w' (some g) := by
  obtain ⟨u0, hu0⟩ : ∃ x, us.getD (m + 2) 0 = x := ⟨_, rfl⟩
  obtain ⟨u1, hu1⟩ : ∃ x, us.getD (m + 1) 0 = x := ⟨_, rfl⟩
  obtain ⟨u2, hu2⟩ : ∃ x, us.getD m 0 = x := ⟨_, rfl⟩
  obtain ⟨v1, hv1e⟩ : ∃ x, vs.getD (m + 1) 0 = x := ⟨_, rfl⟩
  obtain ⟨v2, hv2e⟩ : ∃ x, vs.getD m 0 = x := ⟨_, rfl⟩
  have c0 : w.cell? ⟨g, pre.length + (m + 2), none⟩ = some (.int .u32 (u0 : Int)) := by rw [seg_cell hB _ (by omega), hu0]
  have c1 : w.cell? ⟨g, pre.length + (m + 1), none⟩ = some (.int .u32 (u1 : Int)) := by rw [seg_cell hB _ (by omega), hu1]
  have c2 : w.cell? ⟨g, pre.length + m, none⟩ = some (.int .u32 (u2 : Int)) := by rw [seg_cell hB _ (by omega), hu2]
  have d1 : w.cell? ⟨gv, offv + (m + 1), none⟩ = some (.int .u32 (v1 : Int)) := by rw [hvc _ (by omega), hv1e]
  have d2 : w.cell? ⟨gv, offv + m, none⟩ = some (.int .u32 (v2 : Int)) := by rw [hvc _ (by omega), hv2e]
  have l0 : u0 < 4294967296 := by rw [← hu0]; exact getD_lt hul _
  have l1 : u1 < 4294967296 := by rw [← hu1]; exact getD_lt hul _
  have l2 : u2 < 4294967296 := by rw [← hu2]; exact getD_lt hul _
  have lv1 : v1 < 4294967296 := by rw [← hv1e]; exact getD_lt hvl _
  have lv2 : v2 < 4294967296 := by rw [← hv2e]; exact getD_lt hvl _
  rw [hv1e] at hv1
  -- the two numbers by their highest digits
  have HU := hide (val_top3 us m hus)
  have HV := hide (val_top2 vs m hvs)
  obtain ⟨top, htop⟩ : ∃ t, u0 * 4294967296 + u1 = t := ⟨_, rfl⟩
  have hor : bits .or .u64 ((u0 : Int) * 4294967296) (u1 : Int) = (top : Int) := by
    have h1 := u64_or_nat (u0 * 4294967296) u1 (by omega) (by omega)
    rw [nat_join 32 (u0 * 4294967296) u1 (by omega) (by omega), Int.natCast_mul, htop] at h1
    exact h1
  obtain ⟨g0, hg0⟩ : ∃ x, top / v1 = x := ⟨_, rfl⟩
  obtain ⟨r0, hr0⟩ : ∃ x, top % v1 = x := ⟨_, rfl⟩
  have q1 : IntKind.u64.wrap ((top : Int) / (v1 : Int)) = (g0 : Int) := by
    rw [← Int.natCast_ediv, hg0, IntKind.wrap_u64]
    have : g0 ≤ top := by rw [← hg0]; exact Nat.div_le_self _ _
    omega
  have q2 : (top : Int) % (v1 : Int) = (r0 : Int) := by rw [← Int.natCast_emod, hr0]
  have i1 : (0 : Int) ≤ (m : Int) + 1 := by omega
  have i2 : (0 : Int) ≤ (m : Int) := by omega
  have hU0 : val (us.take m) < 4294967296 ^ m := by
    have h1 := val_lt (us.take m) (fun z hz => hul z (List.mem_of_mem_take hz))
    rwa [show (us.take m).length = m by simp; omega] at h1
  have hV0 : val (vs.take m) < 4294967296 ^ m := by
    have h1 := val_lt (vs.take m) (fun z hz => hvl z (List.mem_of_mem_take hz))
    rwa [show (vs.take m).length = m by simp; omega] at h1
  have HU' : Hid (val us = val (us.take m) + 4294967296 ^ m * (u2 + 4294967296 * top)) := by
    show val us = _
    rw [HU.out, hu0, hu1, hu2, htop]
  have HV' : Hid (val vs = val (vs.take m) + 4294967296 ^ m * (v2 + 4294967296 * v1)) := by
    show val vs = _
    rw [HV.out, hv1e, hv2e]
  have hVpos : 0 < val vs := by
    rw [HV'.out]
    have : 0 < 4294967296 ^ m * (v2 + 4294967296 * v1) := Nat.mul_pos (Nat.pow_pos (by omega)) (by omega)
    omega
  obtain ⟨q, hq⟩ : ∃ q, val us / val vs = q := ⟨_, rfl⟩
  have hqB : q < 4294967296 := by rw [← hq, Nat.div_lt_iff_lt_mul hVpos, Nat.mul_comm]; exact hlt
  have htl : g0 * v1 + r0 = top := by rw [← hg0, ← hr0, Nat.mul_comm]; exact Nat.div_add_mod top v1
  have hr0l : r0 < v1 := by rw [← hr0]; exact Nat.mod_lt _ (by omega)
  have hq0 : q ≤ g0 := by
    have h1 := guess_ge (g := g0) (v1 := v1) (v2 := v2) (u2 := u2) (top := top) (V0 := val (vs.take m)) (by rw [Nat.add_mul, Nat.one_mul]; omega) hU0 l2
    rw [← HU'.out, ← HV'.out] at h1
    have := (Nat.div_lt_iff_lt_mul hVpos).2 h1
    omega
  have hu0v : u0 ≤ v1 := by
    have h1 := hlt
    rw [HU'.out, HV'.out, ← htop] at h1
    exact top_le hV0 lv2 h1
  have hg0B : g0 ≤ 4294967297 := by
    have : top < v1 * 4294967298 := by omega
    have : g0 < 4294967298 := by rw [← hg0]; exact Nat.div_lt_of_lt_mul this
    omega
  have HQ := hide hq; have HTL := hide htl; have HU0 := hide hU0; have HV0 := hide hV0; have HLT := hide hlt
  clear hq htl hU0 hV0 hlt
  have H1 := hide hu0; have H2 := hide hu1; have H3 := hide hu2; have H4 := hide hv1e; have H5 := hide hv2e; have H6 := hide htop; have H7 := hide hg0; have H8 := hide hr0
  have HUS := hide hus; have HVS := hide hvs; have HUL := hide hul; have HVL := hide hvl; have HVC := hide hvc; have HB := hide hB
  clear hu0 hu1 hu2 hv1e hv2e htop hg0 hr0 hus hvs hul hvl hvc hB
  go_enter Tryz.func140, Tryz.ntmps140
  go_wp2_with fail
  go_quiet (fail)
  go_wp2_with fail
  go_quiet (fail)
  go_upto_block 0 with fail
  go_cut [7] (fun gs wx => ∃ gg k : Nat, gs = .int .u64 (gg : Int) ∧ q ≤ gg ∧ gg ≤ q + 1 ∧ gg < 4294967296 ∧ wx = w.drewN k)
  case first =>
    go_wp2_with fail
    go_loopw [7, 8] (fun gs rs wr => ∃ gg r k : Nat, gs = .int .u64 (gg : Int) ∧ rs = .int .u64 (r : Int) ∧ gg * v1 + r = top ∧ r < 4294967296 ∧ q ≤ gg ∧ gg ≤ 4294967297 ∧ wr = w.drewN k) (fun gs _ _ => (intOf gs).toNat)
    case atStart => exact ⟨g0, r0, _, rfl, by first | rfl | rw [q2], HTL.out, by omega, hq0, hg0B, by first | rfl | rw [World.drewN_drewN]⟩
    case round =>
      obtain ⟨gg, r, k, rfl, rfl, htl, hr, hqg, hgB, rfl⟩ := hrel
      have T := hide htl
      clear htl
      by_cases hbig : 4294967296 ≤ gg
      · have t1 : (0 : Int) < (gg : Int) / 4294967296 := by omega
        go_wp2_with fail
        go_quiet (fail)
        go_wp2_with fail
        · go_meet
          have hs := k_step T.out (by omega)
          have hs4 := k_small hs (by omega) H6.out hu0v l1
          have hs5 := k_prod (v2 := v2) hs4 lv2
          exact ⟨gg - 1, _, by go_num, by omega, k_exit HU'.out HV'.out HV0.out hVpos HQ.out hs (by omega) (by omega) (by omega), hs4, rfl⟩
        · have hlt2 : ((r : Int) + (v1 : Int)) / 4294967296 ≤ 0 := by assumption
          go_roundw
          case rel => exact ⟨gg - 1, r + v1, _, by go_num, by go_num, k_step T.out (by omega), by omega, by omega, by omega, rfl⟩
          case measure => simp [intOf]; omega
      · have hgs : gg < 4294967296 := by omega
        have hp := k_prod hgs lv2
        obtain ⟨p, hpe⟩ : ∃ p, gg * v2 = p := ⟨_, rfl⟩
        rw [hpe] at hp
        have f1 : IntKind.u64.wrap ((gg : Int) * (v2 : Int)) = (p : Int) := by rw [← Int.natCast_mul, hpe, IntKind.wrap_u64]; omega
        obtain ⟨e, he⟩ : ∃ e, r * 4294967296 + u2 = e := ⟨_, rfl⟩
        have f2 : bits .or .u64 ((r : Int) * 4294967296) (u2 : Int) = (e : Int) := by
          have h1 := u64_or_nat (r * 4294967296) u2 (by omega) (by omega)
          rw [nat_join 32 (r * 4294967296) u2 (by omega) (by omega), Int.natCast_mul, he] at h1
          exact h1
        have t1 : decide ((0 : Int) < (gg : Int) / 4294967296) = false := by simp; omega
        have P1 := hide hpe; have E1 := hide he
        clear hpe he hbig
        by_cases hst : e < p
        · have hq1 := k_strike HU'.out HV'.out HU0.out hVpos HQ.out T.out (by rw [P1.out, E1.out]; exact hst)
          go_wp2_with fail
          go_quiet (fail)
          go_wp2_with fail
          · go_meet
            have hs := k_step T.out (by omega)
            have hs4 := k_small hs (by omega) H6.out hu0v l1
            have hs5 := k_prod (v2 := v2) hs4 lv2
            exact ⟨gg - 1, _, by go_num, by omega, k_exit HU'.out HV'.out HV0.out hVpos HQ.out hs (by omega) (by omega) (by omega), hs4, rfl⟩
          · have hlt2 : ((r : Int) + (v1 : Int)) / 4294967296 ≤ 0 := by assumption
            go_roundw
            case rel => exact ⟨gg - 1, r + v1, _, by go_num, by go_num, k_step T.out (by omega), by omega, by omega, by omega, rfl⟩
            case measure => simp [intOf]; omega
        · have t2 : decide ((e : Int) < (p : Int)) = false := by simp; omega
          have hx := k_exit HU'.out HV'.out HV0.out hVpos HQ.out T.out (by rw [P1.out, E1.out]; omega) (by omega) (by omega)
          go_wp2_with fail
          go_quiet (fail)
          go_wp2_with fail
          go_meet
          exact ⟨gg, _, rfl, hqg, hx, hgs, by rw [World.drewN_drewN]⟩
  case rest =>
    obtain ⟨gg, k, rfl, hg1, hg2, hg3, rfl⟩ := hcut
    clear c1 c2 d1 d2 hor q1 q2
    go_wp2_with fail
    rw [show m + 2 - 1 = m + 1 by omega]
    go_loopw [9, 10, 84] (fun cs bs is wr => ∃ (j : Nat) (ds : List Nat) (cy bw : Nat), j ≤ m + 2 ∧ is = .int .i64 (j : Int) ∧ cs = .int .u64 (cy : Int) ∧ bs = .int .u32 (bw : Int) ∧ cy < 4294967296 ∧ bw ≤ 1 ∧ ds.length = m + 3 ∧ (∀ z ∈ ds, z < 4294967296) ∧
      ds.drop j = us.drop j ∧ val (ds.take j) + gg * val (vs.take j) = val (us.take j) + 4294967296 ^ j * bw + 4294967296 ^ j * cy ∧ Blk wr g 163 (rowL (pre ++ ds ++ post)) ∧ w.grownBy wr (some g)) (fun _ _ is _ => m + 2 - (intOf is).toNat)
    case atStart => exact ⟨0, us, 0, 0, by omega, rfl, rfl, rfl, by omega, by omega, HUS.out, HUL.out, rfl, by rw [List.take_zero, List.take_zero, val_nil]; omega, HB.out, grown_drewN (grown_refl _ _) _⟩
    case round =>
      obtain ⟨j, ds, cy, bw, hj, rfl, rfl, rfl, hcy, hbw, hdl, hds, hdrop, hval, hB, hG⟩ := hrel
      by_cases hjl : j < m + 2
      · obtain ⟨u, hu⟩ : ∃ u, ds.getD j 0 = u := ⟨_, rfl⟩
        obtain ⟨v, hv⟩ : ∃ v, vs.getD j 0 = v := ⟨_, rfl⟩
        have hul : u < 4294967296 := by rw [← hu]; exact getD_lt hds _
        have hvl : v < 4294967296 := by rw [← hv]; exact getD_lt HVL.out _
        have e1 : wr.cell? ⟨g, pre.length + j, none⟩ = some (.int .u32 (u : Int)) := by rw [seg_cell hB _ (by omega), hu]
        have e2 : wr.cell? ⟨gv, offv + j, none⟩ = some (.int .u32 (v : Int)) := by rw [grown_cell hG hgl hgv, HVC.out j hjl, hv]
        have hfr := hB.frozen (pre.length + j)
        obtain ⟨t, ht⟩ : ∃ t, gg * v + cy = t := ⟨_, rfl⟩
        have hp := k_prod hg3 hvl
        have htb : t < 18446744073709551616 ∧ t / 4294967296 < 4294967296 := by omega
        obtain ⟨p, hpe⟩ : ∃ p, gg * v = p := ⟨_, rfl⟩
        rw [hpe] at ht hp
        have f1 : IntKind.u64.wrap ((gg : Int) * (v : Int)) = (p : Int) := by rw [← Int.natCast_mul, hpe, IntKind.wrap_u64]; omega
        obtain ⟨lo, hlo⟩ : ∃ lo, t % 4294967296 = lo := ⟨_, rfl⟩
        obtain ⟨hi, hhi⟩ : ∃ hi, t / 4294967296 = hi := ⟨_, rfl⟩
        have f2 : ((p : Int) + (cy : Int)) % 4294967296 = (lo : Int) := by omega
        have f3 : ((p : Int) + (cy : Int)) / 4294967296 = (hi : Int) := by omega
        obtain ⟨d, hd⟩ : ∃ d, (u + 4294967296 - lo - bw) % 4294967296 = d := ⟨_, rfl⟩
        have hdl2 : d < 4294967296 := by rw [← hd]; exact Nat.mod_lt _ (by omega)
        have hlol : lo < 4294967296 := by rw [← hlo]; exact Nat.mod_lt _ (by omega)
        have hhil : hi < 4294967296 := by omega
        have hdb : Hid (d + lo + bw = u + 4294967296 * borrow u lo bw) := by show d + lo + bw = _; rw [← hd]; unfold borrow; split <;> omega
        have hset := hB.set_ (pre.length + j) (.int .u32 (d : Int))
        rw [rowL_set, seg_set _ _ _ _ _ (by omega)] at hset
        have hG2 := grown_set hG (pre.length + j) (.int .u32 (d : Int))
        obtain ⟨b2, hb2⟩ : ∃ b2, borrow u lo bw = b2 := ⟨_, rfl⟩
        have hb2l : b2 ≤ 1 := by rw [← hb2]; exact borrow_le _ _ _
        have hcall := sub32_any u lo bw wr hul hlol hbw
        rw [hd, hb2] at hcall
        have X1 := hide hu; have X2 := hide hv; have X3 := hide ht; have X4 := hide hpe; have X5 := hide hlo; have X6 := hide hhi; have X7 := hide hd; have X8 := hide hb2
        have Y1 := hide hdl; have Y2 := hide hds; have Y3 := hide hdrop; have Y4 := hide hval; have HC := hide hcall
        clear hu hv ht hpe hlo hhi hd hb2 hdl hds hdrop hval hcall hB htb
        go_wp2_with (go_at_call 175; refine HC.out.mono ?_; rintro e w' ⟨rfl, rfl⟩)
        go_roundw
        case rel =>
          refine ⟨j + 1, ds.set j d, hi, b2, by omega, by go_num, rfl, rfl, hhil, hb2l, by rw [List.length_set]; exact Y1.out, lt_set Y2.out hdl2, ?_, ?_, hset, hG2⟩
          · rw [List.drop_set_of_lt (by omega)]
            have h := congrArg (List.drop 1) Y3.out
            rw [List.drop_drop, List.drop_drop] at h
            exact h
          · have hux : us.getD j 0 = u := by
              rw [← X1.out]
              have h := congrArg (fun l => l.getD 0 0) Y3.out
              simpa [List.getD, List.getElem?_drop] using h.symm
            rw [val_take_succ, val_take_succ, val_take_succ, hux, X2.out, getD_set_self _ _ _ (by rw [Y1.out]; omega), List.take_set_of_le (Nat.le_refl _), Nat.pow_succ, ← X6.out]
            have hdb' := hdb.out
            rw [X8.out, ← X5.out] at hdb'
            exact take_step (by rw [← X3.out, ← X4.out]) hdb' Y4.out
        case measure => simp [intOf]; omega
      · obtain rfl : j = m + 2 := by omega
        have hd0 : ds.getD (m + 2) 0 = u0 := by
          rw [← H1.out]
          have h := congrArg (fun l => l.getD 0 0) hdrop
          simpa [List.getD, List.getElem?_drop] using h
        have e1 : wr.cell? ⟨g, pre.length + (m + 2), none⟩ = some (.int .u32 (u0 : Int)) := by rw [seg_cell hB _ (by omega), hd0]
        have hfr := hB.frozen (pre.length + (m + 2))
        have f1 : (cy : Int) % 4294967296 = (cy : Int) := by omega
        obtain ⟨d, hd⟩ : ∃ d, (u0 + 4294967296 - cy - bw) % 4294967296 = d := ⟨_, rfl⟩
        obtain ⟨b2, hb2⟩ : ∃ b2, borrow u0 cy bw = b2 := ⟨_, rfl⟩
        have hdl2 : d < 4294967296 := by rw [← hd]; exact Nat.mod_lt _ (by omega)
        have hb2l : b2 ≤ 1 := by rw [← hb2]; exact borrow_le _ _ _
        have hdb : d + cy + bw = u0 + 4294967296 * b2 := by rw [← hd, ← hb2]; unfold borrow; split <;> omega
        have hset := hB.set_ (pre.length + (m + 2)) (.int .u32 (d : Int))
        rw [rowL_set, seg_set _ _ _ _ _ (by omega)] at hset
        have hG2 := grown_set hG (pre.length + (m + 2)) (.int .u32 (d : Int))
        have hcall := sub32_any u0 cy bw wr l0 hcy hbw
        rw [hd, hb2] at hcall
        obtain ⟨es, hes⟩ : ∃ es, ds.set (m + 2) d = es := ⟨_, rfl⟩
        have hel : es.length = m + 3 := by rw [← hes, List.length_set]; exact hdl
        have hesl : ∀ z ∈ es, z < 4294967296 := by rw [← hes]; exact lt_set hds hdl2
        have htot : val es + gg * val vs = val us + 4294967296 ^ (m + 3) * b2 := by
          have h1 : val es = val (ds.take (m + 2)) + 4294967296 ^ (m + 2) * d := by
            have : es.take (m + 3) = es := List.take_of_length_le (by omega)
            rw [← this, val_take_succ, ← hes, getD_set_self _ _ _ (by omega), List.take_set_of_le (Nat.le_refl _)]
          have h2 : val us = val (us.take (m + 2)) + 4294967296 ^ (m + 2) * u0 := by
            have : us.take (m + 3) = us := List.take_of_length_le (by have := HUS.out; omega)
            rw [← this, val_take_succ, H1.out, List.take_take, Nat.min_eq_left (by omega)]
          have h3 : val (vs.take (m + 2)) = val vs := by rw [List.take_of_length_le (by have := HVS.out; omega)]
          rw [h3] at hval
          have hp : (4294967296 : Nat) ^ (m + 3) = 4294967296 ^ (m + 2) * 4294967296 := Nat.pow_succ ..
          rw [h1, h2, hp, Nat.mul_assoc _ 4294967296 b2]
          have h4 : 4294967296 ^ (m + 2) * d + 4294967296 ^ (m + 2) * cy + 4294967296 ^ (m + 2) * bw = 4294967296 ^ (m + 2) * u0 + 4294967296 ^ (m + 2) * (4294967296 * b2) := by
            rw [← Nat.mul_add, ← Nat.mul_add, ← Nat.mul_add, hdb]
          omega
        have hVlt : val vs < 4294967296 ^ (m + 2) := by have := val_lt vs HVL.out; rwa [HVS.out] at this
        have hElt : val es < 4294967296 ^ (m + 3) := by have := val_lt es hesl; rwa [hel] at this
        have hex := digit_exact hVpos HQ.out.symm hg1 hg2 hElt b2 hb2l htot
        rw [hes] at hset
        have X1 := hide hes; have X2 := hide hel; have X3 := hide hesl; have X4 := hide hex; have X5 := hide hVlt; have HC := hide hcall
        clear hd hb2 hdb hes hel hesl htot hElt hex hVlt hcall hdl hds hdrop hval hd0 hB
        by_cases hb0 : b2 = 0
        · subst hb0
          have g1 : (gg : Int) % 4294967296 = (gg : Int) := by omega
          have hfin := X4.out.1 rfl
          have Y1 := hide hfin
          clear hfin
          go_wp2_with (go_at_call 175; refine HC.out.mono ?_; rintro e w' ⟨rfl, rfl⟩)
          go_ret
          refine ⟨es, ret_int ?_, X2.out, X3.out, Y1.out.2, hset, hG2⟩
          rw [HQ.out, Y1.out.1]
        · obtain rfl : b2 = 1 := by omega
          have hfin := X4.out.2 rfl
          have Y1 := hide hfin
          have g1 : ((gg : Int) - 1) % 4294967296 = (q : Int) := by have := Y1.out.1; omega
          have g2 : 1 ≤ gg := by have := Y1.out.1; omega
          clear hfin hb0
          go_wp2_with (go_at_call 175; refine HC.out.mono ?_; rintro e w' ⟨rfl, rfl⟩)
          generalize hW : wr.setCell ⟨g, pre.length + (m + 2), none⟩ (.int .u32 (d : Int)) = w1
          rw [hW] at hset hG2
          clear hW hfr e1 hG
          go_loopw [13, 133] (fun os is wr => ∃ (j : Nat) (fs : List Nat) (ov : Nat), j ≤ m + 2 ∧ is = .int .i64 (j : Int) ∧ os = .int .u32 (ov : Int) ∧ ov ≤ 1 ∧ fs.length = m + 3 ∧ (∀ z ∈ fs, z < 4294967296) ∧
            fs.drop j = es.drop j ∧ val (fs.take j) + 4294967296 ^ j * ov = val (es.take j) + val (vs.take j) ∧ Blk wr g 163 (rowL (pre ++ fs ++ post)) ∧ w.grownBy wr (some g)) (fun _ is _ => m + 2 - (intOf is).toNat)
          case atStart => exact ⟨0, es, 0, by omega, rfl, rfl, by omega, X2.out, X3.out, rfl, by rw [List.take_zero, List.take_zero, val_nil], hset, hG2⟩
          case round =>
            clear hset hG2
            obtain ⟨j, fs, ov, hj, rfl, rfl, hov, hfl, hfs, hdrop, hval, hB, hG⟩ := hrel
            by_cases hjl : j < m + 2
            · obtain ⟨u, hu⟩ : ∃ u, fs.getD j 0 = u := ⟨_, rfl⟩
              obtain ⟨v, hv⟩ : ∃ v, vs.getD j 0 = v := ⟨_, rfl⟩
              have hul : u < 4294967296 := by rw [← hu]; exact getD_lt hfs _
              have hvl : v < 4294967296 := by rw [← hv]; exact getD_lt HVL.out _
              have e1 : wr.cell? ⟨g, pre.length + j, none⟩ = some (.int .u32 (u : Int)) := by rw [seg_cell hB _ (by omega), hu]
              have e2 : wr.cell? ⟨gv, offv + j, none⟩ = some (.int .u32 (v : Int)) := by rw [grown_cell hG hgl hgv, HVC.out j hjl, hv]
              have hfr := hB.frozen (pre.length + j)
              obtain ⟨a, ha⟩ : ∃ a, (u + v + ov) % 4294967296 = a := ⟨_, rfl⟩
              obtain ⟨b, hb⟩ : ∃ b, (u + v + ov) / 4294967296 = b := ⟨_, rfl⟩
              have hcall := fun W => add32_any u v ov W hul hvl hov
              rw [ha, hb] at hcall
              have hab : a + 4294967296 * b = u + v + ov := by rw [← ha, ← hb]; exact Nat.mod_add_div _ _
              have hal : a < 4294967296 := by omega
              have hbl : b ≤ 1 := by omega
              have hset := hB.set_ (pre.length + j) (.int .u32 (a : Int))
              rw [rowL_set, seg_set _ _ _ _ _ (by omega)] at hset
              have hG2 := grown_set hG (pre.length + j) (.int .u32 (a : Int))
              have hux : Hid (es.getD j 0 = u) := by
                show es.getD j 0 = u
                rw [← hu]
                have h := congrArg (fun l => l.getD 0 0) hdrop
                simpa [List.getD, List.getElem?_drop] using h.symm
              have ij1 : (0 : Int) ≤ (j : Int) := by omega
              have ij2 : (j : Int) < (m : Int) + 2 := by omega
              have Z1 := hide hv; have Z2 := hide hab; have Z3 := hide hfl; have Z4 := hide hfs; have Z5 := hide hdrop; have Z6 := hide hval; have HC2 := hide hcall
              clear hu hv ha hb hab hfl hfs hdrop hval hcall hB HC
              have hrel2 : val ((fs.set j a).take (j + 1)) + 4294967296 ^ (j + 1) * b = val (es.take (j + 1)) + val (vs.take (j + 1)) := by
                rw [val_take_succ, val_take_succ, val_take_succ, hux.out, Z1.out, getD_set_self _ _ _ (by rw [Z3.out]; omega), List.take_set_of_le (Nat.le_refl _), Nat.pow_succ, Nat.mul_assoc]
                have h1 : 4294967296 ^ j * a + 4294967296 ^ j * (4294967296 * b) = 4294967296 ^ j * u + 4294967296 ^ j * v + 4294967296 ^ j * ov := by
                  rw [← Nat.mul_add, Z2.out, Nat.mul_add, Nat.mul_add]
                have h2 := Z6.out
                omega
              have hdrop2 : (fs.set j a).drop (j + 1) = es.drop (j + 1) := by
                rw [List.drop_set_of_lt (by omega)]
                have h := congrArg (List.drop 1) Z5.out
                rw [List.drop_drop, List.drop_drop] at h
                exact h
              have hlen2 : (fs.set j a).length = m + 3 := by rw [List.length_set]; exact Z3.out
              have hlt2 : ∀ z ∈ fs.set j a, z < 4294967296 := lt_set Z4.out hal
              have R1 := hide hrel2; have R2 := hide hdrop2; have R3 := hide hlen2; have R4 := hide hlt2
              clear hrel2 hdrop2 hlen2 hlt2
              go_wp2_with fail
              go_region_with (go_at_call 176; refine (HC2.out _).mono ?_; rintro e w' ⟨rfl, rfl⟩)
              all_goals
                go_wp2_with fail
                go_roundw
                case rel => exact ⟨j + 1, fs.set j a, b, by omega, by go_num, rfl, hbl, R3.out, R4.out, R2.out, R1.out, hset, grown_drew hG2⟩
                case measure => simp [intOf]; omega
            · obtain rfl : j = m + 2 := by omega
              have hd0 : fs.getD (m + 2) 0 = d := by
                have h := congrArg (fun l => l.getD 0 0) hdrop
                have h2 : fs.getD (m + 2) 0 = es.getD (m + 2) 0 := by simpa [List.getD, List.getElem?_drop] using h
                rw [h2, ← X1.out, getD_set_self]
                have := X2.out
                rw [← X1.out, List.length_set] at this
                omega
              have e1 : wr.cell? ⟨g, pre.length + (m + 2), none⟩ = some (.int .u32 (d : Int)) := by rw [seg_cell hB _ (by omega), hd0]
              have hfr := hB.frozen (pre.length + (m + 2))
              have hfin : d + ov = 4294967296 ∧ val (fs.take (m + 2)) = val us % val vs := by
                have h1 : val (es.take (m + 2)) + 4294967296 ^ (m + 2) * d = val es := by
                  have h3 : es.take (m + 3) = es := List.take_of_length_le (by have := X2.out; omega)
                  have h4 : es.getD (m + 2) 0 = d := by
                    rw [← X1.out, getD_set_self]
                    have := X2.out
                    rw [← X1.out, List.length_set] at this
                    omega
                  conv => rhs; rw [← h3, val_take_succ, h4]
                have h2 : val (vs.take (m + 2)) = val vs := by rw [List.take_of_length_le (by have := HVS.out; omega)]
                rw [h2] at hval
                have h3 := Y1.out.2
                have h4 : val (fs.take (m + 2)) < 4294967296 ^ (m + 2) := by
                  have h5 := val_lt (fs.take (m + 2)) (fun z hz => hfs z (List.mem_of_mem_take hz))
                  rwa [show (fs.take (m + 2)).length = m + 2 by simp; omega] at h5
                have h5 : val us % val vs < 4294967296 ^ (m + 2) := Nat.lt_trans (Nat.mod_lt _ hVpos) X5.out
                have hp : (4294967296 : Nat) ^ (m + 3) = 4294967296 ^ (m + 2) * 4294967296 := Nat.pow_succ ..
                rw [hp] at h3
                have h6 : 4294967296 ^ (m + 2) * (d + ov) + val (fs.take (m + 2)) = 4294967296 ^ (m + 2) * 4294967296 + val us % val vs := by
                  rw [Nat.mul_add]; omega
                have hpos : 0 < (4294967296 : Nat) ^ (m + 2) := Nat.pow_pos (by omega)
                generalize (4294967296 : Nat) ^ (m + 2) = N at *
                have h7 : d + ov = 4294967296 := by
                  have a1 : (N * (d + ov) + val (fs.take (m + 2))) / N = d + ov := by rw [Nat.mul_add_div hpos, Nat.div_eq_of_lt h4]; rfl
                  have a2 : (N * 4294967296 + val us % val vs) / N = 4294967296 := by rw [Nat.mul_add_div hpos, Nat.div_eq_of_lt h5]
                  rw [← a1, h6, a2]
                rw [h7] at h6
                exact ⟨h7, by omega⟩
              have g3 : ((d : Int) + (ov : Int)) % 4294967296 = ((0 : Nat) : Int) := by have := hfin.1; omega
              have hset := hB.set_ (pre.length + (m + 2)) (.int .u32 ((0 : Nat) : Int))
              rw [rowL_set, seg_set _ _ _ _ _ (by omega)] at hset
              have hG2 := grown_set hG (pre.length + (m + 2)) (.int .u32 ((0 : Nat) : Int))
              rw [show ((0 : Nat) : Int) = 0 from rfl] at hset hG2 g3
              have hres : val (fs.set (m + 2) 0) = val us % val vs := by
                have h1 : (fs.set (m + 2) 0).take (m + 3) = fs.set (m + 2) 0 := List.take_of_length_le (by rw [List.length_set]; omega)
                rw [← h1, val_take_succ, getD_set_self _ _ _ (by omega), List.take_set_of_le (Nat.le_refl _), Nat.mul_zero, Nat.add_zero]
                exact hfin.2
              have hlen2 : (fs.set (m + 2) 0).length = m + 3 := by rw [List.length_set]; exact hfl
              have hlt2 : ∀ z ∈ fs.set (m + 2) 0, z < 4294967296 := lt_set hfs (by omega)
              have Z1 := hide hres; have Z2 := hide hlen2; have Z3 := hide hlt2
              clear hres hlen2 hlt2 hfin hdrop hval hfl hfs hB hd0 HC
              go_wp2_with fail
              go_ret
              exact ⟨_, ret_int (by rw [HQ.out]; have := Y1.out.1; show (gg : Int) - 1 = (q : Int); omega), Z2.out, Z3.out, Z1.out, hset, hG2⟩

end Go.Proofs.YtncabodphjkkfaaGreat
