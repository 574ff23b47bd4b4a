import Derived.Test.YtmconopnplgcfaaRW
namespace Go.Proofs.Ytmconopnplgcfaa
open Go.RowKit

/-! Won 44, Need 45. -/
set_option maxRecDepth 100000 in
set_option maxHeartbeats 4000000 in
theorem rWon_any (F : FL) (f : Fair) (hn : FN f) (hok : FLOK F f) (x : Int) (w : World) (hF : FairAt w w.heap.size F f) : Calls Try.prog 44 #[F.enc f, .int .i64 x] w fun e w' => NumEnd (wonRet f x) e ∧ Below w.heap.size w w' := by
  have hbw := al_below w (.cells #[.slice F.L.Ak f.h.ks.length F.L.ck, .int .i64 f.h.fl, .slice F.L.Ap f.h.ps.length F.L.cp, .slice F.L.Ab f.h.bs.length F.L.cb, .slice F.Ap f.pk.length F.cp, .int .i64 f.day, .int .i64 f.nb, .slice F.Aq f.q.length F.cq] 29)
  have HB := Lib.hid (FBox.new w F f)
  obtain ⟨c0, c1, c2, c3, c4, c5, c6, c7⟩ := (FBox.new w F f).cells
  obtain ⟨W0, hW0⟩ : ∃ W0, w.alloc (.cells #[.slice F.L.Ak f.h.ks.length F.L.ck, .int .i64 f.h.fl, .slice F.L.Ap f.h.ps.length F.L.cp, .slice F.L.Ab f.h.bs.length F.L.cb, .slice F.Ap f.pk.length F.cp, .int .i64 f.day, .int .i64 f.nb, .slice F.Aq f.q.length F.cq] 29) = W0 := ⟨_, rfl⟩
  rw [hW0] at hbw HB c0 c1 c2 c3 c4 c5 c6 c7
  have HBW := Lib.hid hbw
  have HW0 := Lib.hid hW0
  have HF := Lib.hid (hF.below hbw)
  clear hbw hW0 hF
  have HN := Lib.hid hn
  obtain ⟨is, his⟩ : ∃ b, b = isBid f x := ⟨_, rfl⟩
  have HISX := Lib.hid (fun z => by have h := rIsBid_any F f x hn.q (extB W0 z); rw [← his] at h; exact h)
  have H82 := Lib.hid (fun z => rask_any F f HN.out is (extB W0 z) (HF.out.below (extB_below W0 z)))
  have y0 := extB_cell c0
  have y1 := extB_cell c1
  have y2 := extB_cell c2
  have y3 := extB_cell c3
  have y4 := extB_cell c4
  have y5 := extB_cell c5
  have y6 := extB_cell c6
  have y7 := extB_cell c7
  by_cases h0 : askF f is = 0
  · rw [h0] at H82
    obtain ⟨hv, hi⟩ := askF_ok h0
    have hf := FOK.of hv
    obtain ⟨xn, rfl⟩ := Int.eq_ofNat_of_zero_le (inR_true.1 (his.symm.trans hi)).1
    have hxn : xn < f.q.length := by have := (inR_true.1 (his.symm.trans hi)).2; omega
    have HQ := Lib.hid (fun S (hS : SalesL f.q (rdF f) S) => (by rw [won_ret hv hxn, wonS_eq hf hf hS (fun _ => Iff.rfl) hxn] : wonRet f (xn : Int) = (wonS f.q S xn, 0)))
    have H84 := Lib.hid (fun W hW => rsales_any F f HN.out hf W hW)
    have HSM := Lib.hid (fun S (hS : SalesL f.q (rdF f) S) => sales_small hf hS)
    have HPAY := Lib.hid hf.pay
    have hql := hf.ql
    clear hi hf his hv hxn
    clear h0 hn hok
    obtain ⟨L, Ap, cp, Aq, cq⟩ := F
    go_enter Try.func44, Try.ntmps44
    go_upto_region 1 with (fail)
    have e := HW0.out
    rw [e]
    clear e

    refine wp_region_ext (by kernel_rfl) (by kernel_rfl) ?_
    repeat (go_big_quiet_step ((first | (go_at_call 82; exact ext_call (H82.out _)) | (go_at_call 35; exact ext_call (HISX.out _)))))
    refine wpQuiet_nil ?_
    rintro _ ⟨t1, rfl⟩
    clear y0 y1 y2 y3 y4 y5 y6 y7
    have B1 := Lib.hid (extB_below W0 t1)
    obtain ⟨w1, hw1⟩ : ∃ W, extB W0 t1 = W := ⟨_, rfl⟩
    rw [hw1] at B1 ⊢
    clear hw1
    obtain ⟨g0, g1, g2, g3, g4, g5, g6, g7⟩ := (HB.out.of (B1.out.block _ HB.out.lt)).cells
    clear c0 c1 c2 c3 c4 c5 c6 c7
    go_wp2_with (fail)
    go_region_held3 (fun w' => w'.cell? ⟨w.heap.size, 0, none⟩ = some (.slice L.Ak f.h.ks.length L.ck) ∧ w'.cell? ⟨w.heap.size, 1, none⟩ = some (.int .i64 f.h.fl) ∧ w'.cell? ⟨w.heap.size, 2, none⟩ = some (.slice L.Ap f.h.ps.length L.cp) ∧ w'.cell? ⟨w.heap.size, 3, none⟩ = some (.slice L.Ab f.h.bs.length L.cb) ∧ w'.cell? ⟨w.heap.size, 4, none⟩ = some (.slice Ap f.pk.length cp) ∧ w'.cell? ⟨w.heap.size, 5, none⟩ = some (.int .i64 f.day) ∧ w'.cell? ⟨w.heap.size, 6, none⟩ = some (.int .i64 f.nb) ∧ w'.cell? ⟨w.heap.size, 7, none⟩ = some (.slice Aq f.q.length cq)) (first | go_keep)
      (first
        | (go_at_call 84; refine (H84.out _ ((HF.out.below B1.out).below (by first | exact Below.refl _ _ | exact drew_below _))).mono ?_; rintro e w2 ⟨⟨S, hS, A1, cs1, rfl, _, hR⟩, hb⟩; have HS := Lib.hid hS; have HR := Lib.hid hR; have HSL := Lib.hid (by rw [List.length_map] : (S.map intsN).length = S.length); have B2 : Hid (Below W0.heap.size W0 w2) := Lib.hid (hb0to B1.out (by first | exact hb | exact hb0to (drew_below _) hb)); obtain ⟨g0, g1, g2, g3, g4, g5, g6, g7⟩ := (HB.out.of (B2.out.block _ HB.out.lt)).cells; clear hS hR hb)
        | (go_at_call 83; refine (wonOf_any ⟨L, Ap, cp, Aq, cq⟩ f hql HPAY.out S (HSM.out S HS.out) HS.out.len A1 cs1 _ xn w2 (HF.out.below B2.out) HR.out).mono ?_; rintro e w3 ⟨rfl, hb⟩; have B3 := Lib.hid (hb0to B2.out hb); obtain ⟨g0, g1, g2, g3, g4, g5, g6, g7⟩ := (HB.out.of (B3.out.block _ HB.out.lt)).cells; clear hb))
    all_goals
      go_wp2_with (fail)
      go_ret2
      exact ⟨NumEnd.mk (HQ.out S HS.out), hb0to HBW.out B3.out⟩
  · obtain ⟨er, her⟩ : ∃ e, e = askF f is := ⟨_, rfl⟩
    have HQ := Lib.hid her
    have HIS := Lib.hid his
    rw [← her] at H82 h0
    have hd : (er != 0) = true := bne_iff_ne.2 h0
    clear h0 her hn hok his
    obtain ⟨L, Ap, cp, Aq, cq⟩ := F
    go_enter Try.func44, Try.ntmps44
    go_upto_region 1 with (fail)
    have e := HW0.out
    rw [e]
    clear e

    refine wp_region_ext (by kernel_rfl) (by kernel_rfl) ?_
    repeat (go_big_quiet_step ((first | (go_at_call 82; exact ext_call (H82.out _)) | (go_at_call 35; exact ext_call (HISX.out _)))))
    refine wpQuiet_nil ?_
    rintro _ ⟨t1, rfl⟩
    clear y0 y1 y2 y3 y4 y5 y6 y7
    have B1 := Lib.hid (extB_below W0 t1)
    obtain ⟨w1, hw1⟩ : ∃ W, extB W0 t1 = W := ⟨_, rfl⟩
    rw [hw1] at B1 ⊢
    clear hw1
    go_wp2_with (fail)
    go_ret2
    exact ⟨NumEnd.mk (by unfold wonRet; rw [← HIS.out]; exact numRF_no HQ.out (bne_iff_ne.1 hd)), hb0to HBW.out B1.out⟩
set_option maxRecDepth 100000 in
set_option maxHeartbeats 4000000 in
theorem rNeed_any (F : FL) (f : Fair) (hn : FN f) (hok : FLOK F f) (x : Int) (w : World) (hF : FairAt w w.heap.size F f) : Calls Try.prog 45 #[F.enc f, .int .i64 x] w fun e w' => NumEnd (needRet f x) e ∧ Below w.heap.size w w' := by
  have hbw := al_below w (.cells #[.slice F.L.Ak f.h.ks.length F.L.ck, .int .i64 f.h.fl, .slice F.L.Ap f.h.ps.length F.L.cp, .slice F.L.Ab f.h.bs.length F.L.cb, .slice F.Ap f.pk.length F.cp, .int .i64 f.day, .int .i64 f.nb, .slice F.Aq f.q.length F.cq] 29)
  have HB := Lib.hid (FBox.new w F f)
  obtain ⟨c0, c1, c2, c3, c4, c5, c6, c7⟩ := (FBox.new w F f).cells
  obtain ⟨W0, hW0⟩ : ∃ W0, w.alloc (.cells #[.slice F.L.Ak f.h.ks.length F.L.ck, .int .i64 f.h.fl, .slice F.L.Ap f.h.ps.length F.L.cp, .slice F.L.Ab f.h.bs.length F.L.cb, .slice F.Ap f.pk.length F.cp, .int .i64 f.day, .int .i64 f.nb, .slice F.Aq f.q.length F.cq] 29) = W0 := ⟨_, rfl⟩
  rw [hW0] at hbw HB c0 c1 c2 c3 c4 c5 c6 c7
  have HBW := Lib.hid hbw
  have HW0 := Lib.hid hW0
  have HF := Lib.hid (hF.below hbw)
  clear hbw hW0 hF
  have HN := Lib.hid hn
  obtain ⟨is, his⟩ : ∃ b, b = isBid f x := ⟨_, rfl⟩
  have HISX := Lib.hid (fun z => by have h := rIsBid_any F f x hn.q (extB W0 z); rw [← his] at h; exact h)
  have H82 := Lib.hid (fun z => rask_any F f HN.out is (extB W0 z) (HF.out.below (extB_below W0 z)))
  have y0 := extB_cell c0
  have y1 := extB_cell c1
  have y2 := extB_cell c2
  have y3 := extB_cell c3
  have y4 := extB_cell c4
  have y5 := extB_cell c5
  have y6 := extB_cell c6
  have y7 := extB_cell c7
  by_cases h0 : askF f is = 0
  · rw [h0] at H82
    obtain ⟨hv, hi⟩ := askF_ok h0
    have hf := FOK.of hv
    obtain ⟨xn, rfl⟩ := Int.eq_ofNat_of_zero_le (inR_true.1 (his.symm.trans hi)).1
    have hxn : xn < f.q.length := by have := (inR_true.1 (his.symm.trans hi)).2; omega
    obtain ⟨y, hy⟩ : ∃ y, f.q[xn]? = some y := ⟨_, List.getElem?_eq_getElem hxn⟩
    have HQ := Lib.hid (need_ret hv hxn)
    have hnb := needQ_bd f xn
    have H84 := Lib.hid (fun W hW => rsales_any F f HN.out hf W hW)
    have HSM := Lib.hid (fun S (hS : SalesL f.q (rdF f) S) => sales_small hf hS)
    have H22 := Lib.hid (fun (p : Int) W hW => offered_any F f HN.out hok xn p hxn W hW)
    have HG := Lib.hid (fun (p : Nat) (h9 : p ≤ 99) => FOK.of (offer_valid hy hv (p := (p : Int)) (by omega)))
    have HL := Lib.hid (fun p : Int => (by show (offerQ f.q xn p).length = f.q.length; rw [offer_eq hy, List.length_set] : (offerF f xn p).q.length = f.q.length))
    have HE := Lib.hid (fun (p : Nat) (h9 : p ≤ 99) S (hS : SalesL f.q (rdF f) S) => (by
      rw [wonS_eq hf (HG.out p h9) hS (fun l => offer_sale hy (p : Int)) (by rw [HL.out]; exact hxn)]
      exact need_won hv hy (p := (p : Int)) (by omega) : wonS (offerF f xn (p : Int)).q S xn = 2 ↔ (p : Int) < needQ f xn))
    generalize needQ f xn = nd at HQ hnb HE
    clear hi hf his hv hxn hy
    clear h0 hn hok
    obtain ⟨L, Ap, cp, Aq, cq⟩ := F
    go_enter Try.func45, Try.ntmps45
    go_upto_region 1 with (fail)
    have e := HW0.out
    rw [e]
    clear e

    refine wp_region_ext (by kernel_rfl) (by kernel_rfl) ?_
    repeat (go_big_quiet_step ((first | (go_at_call 82; exact ext_call (H82.out _)) | (go_at_call 35; exact ext_call (HISX.out _)))))
    refine wpQuiet_nil ?_
    rintro _ ⟨t1, rfl⟩
    clear y0 y1 y2 y3 y4 y5 y6 y7
    have B1 := Lib.hid (extB_below W0 t1)
    obtain ⟨w1, hw1⟩ : ∃ W, extB W0 t1 = W := ⟨_, rfl⟩
    rw [hw1] at B1 ⊢
    clear hw1
    obtain ⟨g0, g1, g2, g3, g4, g5, g6, g7⟩ := (HB.out.of (B1.out.block _ HB.out.lt)).cells
    clear c0 c1 c2 c3 c4 c5 c6 c7
    go_wp2_with (go_at_call 84; refine (H84.out _ (HF.out.below B1.out)).mono ?_; rintro e w2 ⟨⟨S, hS, A1, cs1, rfl, _, hR⟩, hb⟩; have HS := Lib.hid hS; have HR := Lib.hid hR; have hmap := (List.length_map intsN : (S.map intsN).length = S.length); have B2 := Lib.hid (hb0to B1.out hb); clear hS hR hb)
    clear g0 g1 g2 g3 g4 g5 g6 g7
    have HS2 := Lib.hid (HSM.out S HS.out)
    go_loopw [8] (fun i wr => ∃ k : Nat, k ≤ 100 ∧ i = .int .i64 k ∧ (k : Int) ≤ nd ∧ Hid (Below w2.heap.size w2 wr)) (fun i _ => 101 - (intOf i).toNat)
    case atStart => exact ⟨0, by omega, rfl, by omega, Lib.hid (Below.refl _ _)⟩
    case round =>
      obtain ⟨k, hk, rfl, hkn, hb0⟩ := hrel
      obtain ⟨g0, g1, g2, g3, g4, g5, g6, g7⟩ := (HB.out.of ((hb0to B2.out hb0.out).block _ HB.out.lt)).cells
      by_cases hlt : k ≤ 99
      · have hd1 : decide ((k : Int) ≤ 99) = true := decide_eq_true (by omega)
        have H83 := Lib.hid (fun G W (hW : FairAt W W.heap.size G (offerF f xn (k : Int))) (lo : Nat) (hR : RowsIn W lo W.heap.size A1 (S.map intsN)) => (by
          have h := wonOf_any G (offerF f xn (k : Int)) (HG.out k hlt).ql (HG.out k hlt).pay S (fun l hl => ⟨(HS2.out l hl).1, fun i hi => by rw [HL.out]; exact (HS2.out l hl).2 i hi⟩) HS.out.len A1 cs1 lo xn W hW hR
          exact h : Calls Try.prog 83 #[G.enc (offerF f xn (k : Int)), .slice A1 S.length cs1, .int .i64 (xn : Int)] W fun e w' => e = .returned (.int .i64 (wonS (offerF f xn (k : Int)).q S xn)) ∧ Below W.heap.size W w'))
        have hiff := HE.out k hlt S HS.out
        generalize wonS (offerF f xn (k : Int)).q S xn = kw at H83 hiff
        by_cases hkl : (k : Int) < nd
        · obtain rfl : kw = 2 := hiff.2 hkl
          clear hiff
          go_wp2_with (first
            | (go_at_call 22; refine (H22.out _ wr (HF.out.below (hb0to B2.out hb0.out))).mono ?_; rintro e w6 ⟨⟨⟨⟨k1, k2, k3, k4, k5, k6⟩, k7, k8, k9, k10⟩, rfl, hcf, hq⟩, hb⟩; have HG6 := Lib.hid (CopRet.fair hcf hq).1; have B6 := Lib.hid hb; clear hcf hq hb)
            | (go_at_call 83; refine (H83.out _ w6 HG6.out _ ((HR.out.below (hb0to hb0.out B6.out) (Nat.le_refl _)).keep (Nat.le_refl _) (hb0to hb0.out B6.out).size fun _ _ _ _ => rfl)).mono ?_; rintro e w7 ⟨rfl, hb⟩; have B7 := Lib.hid (hb0to B6.out hb); clear hb))
          go_roundw
          case rel => exact ⟨k + 1, by omega, by go_num, by omega, Lib.hid (hb0to hb0.out B7.out)⟩
          case measure => simp [intOf]; omega
        · have hd2 : (kw != (2 : Int)) = true := bne_iff_ne.2 fun h => hkl (hiff.1 h)
          obtain rfl : nd = (k : Int) := by omega
          have HQ2 := Lib.hid (HQ.out.trans (if_neg (by omega)))
          clear hiff
          go_wp2_with (first
            | (go_at_call 22; refine (H22.out _ wr (HF.out.below (hb0to B2.out hb0.out))).mono ?_; rintro e w6 ⟨⟨⟨⟨k1, k2, k3, k4, k5, k6⟩, k7, k8, k9, k10⟩, rfl, hcf, hq⟩, hb⟩; have HG6 := Lib.hid (CopRet.fair hcf hq).1; have B6 := Lib.hid hb; clear hcf hq hb)
            | (go_at_call 83; refine (H83.out _ w6 HG6.out _ ((HR.out.below (hb0to hb0.out B6.out) (Nat.le_refl _)).keep (Nat.le_refl _) (hb0to hb0.out B6.out).size fun _ _ _ _ => rfl)).mono ?_; rintro e w7 ⟨rfl, hb⟩; have B7 := Lib.hid (hb0to B6.out hb); clear hb))
          go_ret2
          exact ⟨NumEnd.mk HQ2.out, hb0to HBW.out (hb0to B2.out (hb0to hb0.out B7.out))⟩
      · obtain rfl : k = 100 := by omega
        obtain rfl : nd = 100 := by omega
        have HQ2 := Lib.hid (HQ.out.trans (if_pos rfl))
        go_wp2_with (fail)
        go_ret2
        exact ⟨NumEnd.mk HQ2.out, hb0to HBW.out (hb0to B2.out hb0.out)⟩
  · obtain ⟨er, her⟩ : ∃ e, e = askF f is := ⟨_, rfl⟩
    have HQ := Lib.hid her
    have HIS := Lib.hid his
    rw [← her] at H82 h0
    have hd : (er != 0) = true := bne_iff_ne.2 h0
    clear h0 her hn hok his
    obtain ⟨L, Ap, cp, Aq, cq⟩ := F
    go_enter Try.func45, Try.ntmps45
    go_upto_region 1 with (fail)
    have e := HW0.out
    rw [e]
    clear e

    refine wp_region_ext (by kernel_rfl) (by kernel_rfl) ?_
    repeat (go_big_quiet_step ((first | (go_at_call 82; exact ext_call (H82.out _)) | (go_at_call 35; exact ext_call (HISX.out _)))))
    refine wpQuiet_nil ?_
    rintro _ ⟨t1, rfl⟩
    clear y0 y1 y2 y3 y4 y5 y6 y7
    have B1 := Lib.hid (extB_below W0 t1)
    obtain ⟨w1, hw1⟩ : ∃ W, extB W0 t1 = W := ⟨_, rfl⟩
    rw [hw1] at B1 ⊢
    clear hw1
    go_wp2_with (fail)
    go_ret2
    exact ⟨NumEnd.mk (by unfold needRet; rw [← HIS.out, if_neg (by rw [← HQ.out]; exact bne_iff_ne.1 hd), HQ.out]), hb0to HBW.out B1.out⟩

end Go.Proofs.Ytmconopnplgcfaa
