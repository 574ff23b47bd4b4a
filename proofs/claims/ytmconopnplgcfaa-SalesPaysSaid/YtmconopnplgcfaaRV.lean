import Derived.Test.YtmconopnplgcfaaPN
namespace Go.Proofs.Ytmconopnplgcfaa
open Go.RowKit

/-! On 54, When 55. -/
set_option maxRecDepth 100000 in
set_option maxHeartbeats 4000000 in
theorem rOn_any (F : FL) (f : Fair) (hn : FN f) (hok : FLOK F f) (x : Int) (w : World) (hF : FairAt w w.heap.size F f) : Calls Try.prog 54 #[F.enc f, .int .i64 x] w fun e w' => NumEnd (onRet f x) e ∧ Below w.heap.size w w' := by
  have hbw := al_below w (.cells #[.slice F.L.Ak f.h.ks.length F.L.ck, .int .i64 f.h.fl, .slice F.L.Ap f.h.ps.length F.L.cp, .slice F.L.Ab f.h.bs.length F.L.cb, .slice F.Ap f.pk.length F.cp, .int .i64 f.day, .int .i64 f.nb, .slice F.Aq f.q.length F.cq] 29)
  have HB := Lib.hid (FBox.new w F f)
  obtain ⟨c0, c1, c2, c3, c4, c5, c6, c7⟩ := (FBox.new w F f).cells
  obtain ⟨W0, hW0⟩ : ∃ W0, w.alloc (.cells #[.slice F.L.Ak f.h.ks.length F.L.ck, .int .i64 f.h.fl, .slice F.L.Ap f.h.ps.length F.L.cp, .slice F.L.Ab f.h.bs.length F.L.cb, .slice F.Ap f.pk.length F.cp, .int .i64 f.day, .int .i64 f.nb, .slice F.Aq f.q.length F.cq] 29) = W0 := ⟨_, rfl⟩
  rw [hW0] at hbw HB c0 c1 c2 c3 c4 c5 c6 c7
  have HBW := Lib.hid hbw
  have HW0 := Lib.hid hW0
  have HF := Lib.hid (hF.below hbw)
  clear hbw hW0 hF
  have HN := Lib.hid hn
  obtain ⟨is, his⟩ : ∃ b, b = inR x 0 20 := ⟨_, rfl⟩
  have HISX := Lib.hid (fun z => by have h := rIsDay_any x (extB W0 z); rw [← his] at h; exact h)
  have H82 := Lib.hid (fun z => rask_any F f HN.out is (extB W0 z) (HF.out.below (extB_below W0 z)))
  have y0 := extB_cell c0
  have y1 := extB_cell c1
  have y2 := extB_cell c2
  have y3 := extB_cell c3
  have y4 := extB_cell c4
  have y5 := extB_cell c5
  have y6 := extB_cell c6
  have y7 := extB_cell c7
  by_cases h0 : askF f is = 0
  · rw [h0] at H82
    obtain ⟨hv, hi⟩ := askF_ok h0
    have hf := FOK.of hv
    have hx := inR_true.1 (his.symm.trans hi)
    have HQ := Lib.hid (show onRet f x = (dayV f x, 0) by unfold onRet; rw [← his]; exact numRF_ok h0)
    have H28 := Lib.hid (fun W hW => onDay_any F f HN.out hok x W hW)
    have H79 := Lib.hid (fun G W hW => mostOf_any G (dayF f x) (day_fn HN.out x) (FOK.of (day_valid hv hx)) W hW)
    rw [show mostV (dayF f x).q (rdF (dayF f x)) = dayV f x from rfl] at H79
    clear hi hf hx his hv
    clear h0 hn hok
    obtain ⟨L, Ap, cp, Aq, cq⟩ := F
    go_enter Try.func54, Try.ntmps54
    go_upto_region 1 with (fail)
    have e := HW0.out
    rw [e]
    clear e

    refine wp_region_ext (by kernel_rfl) (by kernel_rfl) ?_
    repeat (go_big_quiet_step ((first | (go_at_call 82; exact ext_call (H82.out _)) | (go_at_call 27; exact ext_same (HISX.out _)))))
    refine wpQuiet_nil ?_
    rintro _ ⟨t1, rfl⟩
    clear y0 y1 y2 y3 y4 y5 y6 y7
    have B1 := Lib.hid (extB_below W0 t1)
    obtain ⟨w1, hw1⟩ : ∃ W, extB W0 t1 = W := ⟨_, rfl⟩
    rw [hw1] at B1 ⊢
    clear hw1
    obtain ⟨g0, g1, g2, g3, g4, g5, g6, g7⟩ := (HB.out.of (B1.out.block _ HB.out.lt)).cells
    clear c0 c1 c2 c3 c4 c5 c6 c7
    go_wp2_with (first
      | (go_at_call 28; refine (H28.out w1 (HF.out.below B1.out)).mono ?_; rintro e w2 ⟨⟨⟨⟨k1, k2, k3, k4, k5, k6⟩, k7, k8, k9, k10⟩, rfl, hcf, hq⟩, hb⟩; have HG := Lib.hid (CopRet.fair hcf hq).1; have B2 := Lib.hid (hb0to B1.out hb); clear hcf hq hb)
      | (go_at_call 79; refine (H79.out _ w2 HG.out).mono ?_; rintro e w3 ⟨rfl, hb⟩; have B3 := Lib.hid (hb0to B2.out hb); clear hb))
    go_ret2
    exact ⟨NumEnd.mk HQ.out, hb0to HBW.out B3.out⟩
  · obtain ⟨er, her⟩ : ∃ e, e = askF f is := ⟨_, rfl⟩
    have HQ := Lib.hid her
    have HIS := Lib.hid his
    rw [← her] at H82 h0
    have hd : (er != 0) = true := bne_iff_ne.2 h0
    clear h0 her hn hok his
    obtain ⟨L, Ap, cp, Aq, cq⟩ := F
    go_enter Try.func54, Try.ntmps54
    go_upto_region 1 with (fail)
    have e := HW0.out
    rw [e]
    clear e

    refine wp_region_ext (by kernel_rfl) (by kernel_rfl) ?_
    repeat (go_big_quiet_step ((first | (go_at_call 82; exact ext_call (H82.out _)) | (go_at_call 27; exact ext_same (HISX.out _)))))
    refine wpQuiet_nil ?_
    rintro _ ⟨t1, rfl⟩
    clear y0 y1 y2 y3 y4 y5 y6 y7
    have B1 := Lib.hid (extB_below W0 t1)
    obtain ⟨w1, hw1⟩ : ∃ W, extB W0 t1 = W := ⟨_, rfl⟩
    rw [hw1] at B1 ⊢
    clear hw1
    go_wp2_with (fail)
    go_ret2
    exact ⟨NumEnd.mk (by unfold onRet; rw [← HIS.out]; exact numRF_no HQ.out (bne_iff_ne.1 hd)), hb0to HBW.out B1.out⟩
set_option maxRecDepth 100000 in
set_option maxHeartbeats 4000000 in
theorem rWhen_any (F : FL) (f : Fair) (hn : FN f) (hok : FLOK F f) (w : World) (hF : FairAt w w.heap.size F f) : Calls Try.prog 55 #[F.enc f] w fun e w' => NumEnd (whenRet f) e ∧ Below w.heap.size w w' := by
  have hbw := al_below w (.cells #[.slice F.L.Ak f.h.ks.length F.L.ck, .int .i64 f.h.fl, .slice F.L.Ap f.h.ps.length F.L.cp, .slice F.L.Ab f.h.bs.length F.L.cb, .slice F.Ap f.pk.length F.cp, .int .i64 f.day, .int .i64 f.nb, .slice F.Aq f.q.length F.cq] 29)
  have HB := Lib.hid (FBox.new w F f)
  obtain ⟨c0, c1, c2, c3, c4, c5, c6, c7⟩ := (FBox.new w F f).cells
  obtain ⟨W0, hW0⟩ : ∃ W0, w.alloc (.cells #[.slice F.L.Ak f.h.ks.length F.L.ck, .int .i64 f.h.fl, .slice F.L.Ap f.h.ps.length F.L.cp, .slice F.L.Ab f.h.bs.length F.L.cb, .slice F.Ap f.pk.length F.cp, .int .i64 f.day, .int .i64 f.nb, .slice F.Aq f.q.length F.cq] 29) = W0 := ⟨_, rfl⟩
  rw [hW0] at hbw HB c0 c1 c2 c3 c4 c5 c6 c7
  have HBW := Lib.hid hbw
  have HW0 := Lib.hid hW0
  have HF := Lib.hid (hF.below hbw)
  clear hbw hW0 hF
  have HC := Lib.hid (rcheckF_any F f hn W0 HF.out)
  have HN := Lib.hid hn
  cases hv : validF f
  · rw [ckF_no hv] at HC
    have HQ := Lib.hid (show whenRet f = (0, 90) from numRF_no (askF_bad true hv).symm (by omega))
    clear hv hok hn
    obtain ⟨L, Ap, cp, Aq, cq⟩ := F
    go_enter Try.func55, Try.ntmps55
    go_upto_region 1 with (fail)
    have e := HW0.out
    rw [e]
    clear e

    go_wp2_with (go_at_call 48; refine HC.out.mono ?_; rintro e w1 ⟨rfl, hb1⟩; have B1 := Lib.hid hb1; clear hb1)
    go_ret2
    exact ⟨NumEnd.mk HQ.out, hb0to HBW.out B1.out⟩
  · rw [ckF_yes hv] at HC
    have hf := FOK.of hv
    have HW := Lib.hid (when_is hf)
    have HWR := Lib.hid (show whenRet f = ((whenV f : Int), 0) from numRF_ok (askF_yes hv))
    have H28 := Lib.hid (fun (k : Nat) W hW => onDay_any F f HN.out hok (k : Int) W hW)
    have H28b := Lib.hid (fun W hW => onDay_any F f HN.out hok 20 W hW)
    have H79 := Lib.hid (fun (k : Nat) (hk : k ≤ 20) G W hW => mostOf_any G (dayF f (k : Int)) (day_fn HN.out _) (FOK.of (day_valid hv (by omega))) W hW)
    have H79b := Lib.hid (fun G W hW => mostOf_any G (dayF f 20) (day_fn HN.out 20) (FOK.of (day_valid hv (by omega))) W hW)
    change Hid (∀ (k : Nat) (hk : k ≤ 20) G W hW, Calls _ _ _ _ fun e w' => e = .returned (.int .i64 (dayV f (k : Int))) ∧ _) at H79
    change Hid (∀ G W hW, Calls _ _ _ _ fun e w' => e = .returned (.int .i64 (dayV f 20)) ∧ _) at H79b
    clear hv hok hn hf
    obtain ⟨L, Ap, cp, Aq, cq⟩ := F
    go_enter Try.func55, Try.ntmps55
    go_upto_region 1 with (fail)
    have e := HW0.out
    rw [e]
    clear e

    go_wp2_with (go_at_call 48; refine HC.out.mono ?_; rintro e w1 ⟨rfl, hb1⟩; have B1 := Lib.hid hb1; clear hb1)
    clear c0 c1 c2 c3 c4 c5 c6 c7
    go_loopw [5] (fun i wr => ∃ k : Nat, k ≤ 20 ∧ i = .int .i64 k ∧ Hid (∀ e, e < k → dayV f (e : Int) < dayV f 20) ∧ Hid (Below W0.heap.size W0 wr)) (fun i _ => 21 - (intOf i).toNat)
    case atStart => exact ⟨0, by omega, rfl, Lib.hid (fun e h => absurd h (by omega)), B1⟩
    case round =>
      obtain ⟨k, hk20, rfl, hall, hb0⟩ := hrel
      obtain ⟨g0, g1, g2, g3, g4, g5, g6, g7⟩ := (HB.out.of (hb0.out.block _ HB.out.lt)).cells
      have HNC := Lib.hid True.intro
      by_cases hlt : dayV f (k : Int) < dayV f 20
      · have hd : decide (dayV f (k : Int) < dayV f 20) = true := decide_eq_true hlt
        have HA := Lib.hid (fun e (he : e < k + 1) => (by
          rcases Nat.lt_succ_iff_lt_or_eq.1 he with h | rfl
          · exact hall.out e h
          · exact hlt : dayV f (e : Int) < dayV f 20))
        have hk19 : k < 20 := by
          rcases Nat.lt_or_ge k 20 with h | h
          · exact h
          · obtain rfl : k = 20 := by omega
            exact absurd hlt (Int.lt_irrefl _)
        clear hlt
        go_upto_region 5 with (fail)
        go_region_held3 (fun w' => w'.cell? ⟨w.heap.size, 0, none⟩ = some (.slice L.Ak f.h.ks.length L.ck) ∧ w'.cell? ⟨w.heap.size, 1, none⟩ = some (.int .i64 f.h.fl) ∧ w'.cell? ⟨w.heap.size, 2, none⟩ = some (.slice L.Ap f.h.ps.length L.cp) ∧ w'.cell? ⟨w.heap.size, 3, none⟩ = some (.slice L.Ab f.h.bs.length L.cb) ∧ w'.cell? ⟨w.heap.size, 4, none⟩ = some (.slice Ap f.pk.length cp) ∧ w'.cell? ⟨w.heap.size, 5, none⟩ = some (.int .i64 f.day) ∧ w'.cell? ⟨w.heap.size, 6, none⟩ = some (.int .i64 f.nb) ∧ w'.cell? ⟨w.heap.size, 7, none⟩ = some (.slice Aq f.q.length cq)) (first | go_keep)
          (first
            | (have hg9 := HG2.out; clear HG2; go_at_call 79; refine (H79b.out _ w4 hg9).mono ?_; rintro e w5 ⟨rfl, hb⟩; have B5 := Lib.hid (hb0to B4.out hb); obtain ⟨g0, g1, g2, g3, g4, g5, g6, g7⟩ := (HB.out.of (B5.out.block _ HB.out.lt)).cells; clear hg9 hb)
            | (have t9 := T1.out; clear T1 t9; go_at_call 28; refine (H28b.out w3 (HF.out.below B3.out)).mono ?_; rintro e w4 ⟨⟨⟨⟨j1, j2, j3, j4, j5, j6⟩, j7, j8, j9, j10⟩, rfl, hcf, hq⟩, hb⟩; have B4 := Lib.hid (hb0to B3.out hb); have HG2 := Lib.hid (CopRet.fair hcf hq).1; obtain ⟨g0, g1, g2, g3, g4, g5, g6, g7⟩ := (HB.out.of (B4.out.block _ HB.out.lt)).cells; clear hcf hq hb)
            | (have hg9 := HG.out; clear HG; go_at_call 79; refine (H79.out k hk20 _ w2 hg9).mono ?_; rintro e w3 ⟨rfl, hb⟩; have B3 := Lib.hid (hb0to B2.out hb); have T1 := Lib.hid True.intro; obtain ⟨g0, g1, g2, g3, g4, g5, g6, g7⟩ := (HB.out.of (B3.out.block _ HB.out.lt)).cells; clear hg9 hb)
            | (have hnc := HNC.out; clear HNC hnc; go_at_call 28; refine (H28.out k _ (HF.out.below (hb0to hb0.out (by first | exact Below.refl _ _ | exact drew_below _)))).mono ?_; rintro e w2 ⟨⟨⟨⟨k1, k2, k3, k4, k5, k6⟩, k7, k8, k9, k10⟩, rfl, hcf, hq⟩, hb⟩; have B2 : Hid (Below W0.heap.size W0 w2) := Lib.hid (hb0to hb0.out (by first | exact hb | exact hb0to (drew_below _) hb)); have HG := Lib.hid (CopRet.fair hcf hq).1; obtain ⟨g0, g1, g2, g3, g4, g5, g6, g7⟩ := (HB.out.of (B2.out.block _ HB.out.lt)).cells; clear hcf hq hb))
        go_wp2_with (fail)
        go_roundw
        case rel => exact ⟨k + 1, by omega, by go_num, HA, B5⟩
        case measure => simp [intOf]; omega
      · have hd : decide (dayV f (k : Int) < dayV f 20) = false := decide_eq_false hlt
        have HK : Hid (whenV f = k) := Lib.hid (HW.out.unique ⟨hk20, by show dayV f ((20 : Nat) : Int) ≤ _; exact Int.not_lt.1 hlt, fun e he => hall.out e he⟩)
        clear hlt
        go_upto_region 5 with (fail)
        go_region_held3 (fun w' => w'.cell? ⟨w.heap.size, 0, none⟩ = some (.slice L.Ak f.h.ks.length L.ck) ∧ w'.cell? ⟨w.heap.size, 1, none⟩ = some (.int .i64 f.h.fl) ∧ w'.cell? ⟨w.heap.size, 2, none⟩ = some (.slice L.Ap f.h.ps.length L.cp) ∧ w'.cell? ⟨w.heap.size, 3, none⟩ = some (.slice L.Ab f.h.bs.length L.cb) ∧ w'.cell? ⟨w.heap.size, 4, none⟩ = some (.slice Ap f.pk.length cp) ∧ w'.cell? ⟨w.heap.size, 5, none⟩ = some (.int .i64 f.day) ∧ w'.cell? ⟨w.heap.size, 6, none⟩ = some (.int .i64 f.nb) ∧ w'.cell? ⟨w.heap.size, 7, none⟩ = some (.slice Aq f.q.length cq)) (first | go_keep)
          (first
            | (have hg9 := HG2.out; clear HG2; go_at_call 79; refine (H79b.out _ w4 hg9).mono ?_; rintro e w5 ⟨rfl, hb⟩; have B5 := Lib.hid (hb0to B4.out hb); obtain ⟨g0, g1, g2, g3, g4, g5, g6, g7⟩ := (HB.out.of (B5.out.block _ HB.out.lt)).cells; clear hg9 hb)
            | (have t9 := T1.out; clear T1 t9; go_at_call 28; refine (H28b.out w3 (HF.out.below B3.out)).mono ?_; rintro e w4 ⟨⟨⟨⟨j1, j2, j3, j4, j5, j6⟩, j7, j8, j9, j10⟩, rfl, hcf, hq⟩, hb⟩; have B4 := Lib.hid (hb0to B3.out hb); have HG2 := Lib.hid (CopRet.fair hcf hq).1; obtain ⟨g0, g1, g2, g3, g4, g5, g6, g7⟩ := (HB.out.of (B4.out.block _ HB.out.lt)).cells; clear hcf hq hb)
            | (have hg9 := HG.out; clear HG; go_at_call 79; refine (H79.out k hk20 _ w2 hg9).mono ?_; rintro e w3 ⟨rfl, hb⟩; have B3 := Lib.hid (hb0to B2.out hb); have T1 := Lib.hid True.intro; obtain ⟨g0, g1, g2, g3, g4, g5, g6, g7⟩ := (HB.out.of (B3.out.block _ HB.out.lt)).cells; clear hg9 hb)
            | (have hnc := HNC.out; clear HNC hnc; go_at_call 28; refine (H28.out k _ (HF.out.below (hb0to hb0.out (by first | exact Below.refl _ _ | exact drew_below _)))).mono ?_; rintro e w2 ⟨⟨⟨⟨k1, k2, k3, k4, k5, k6⟩, k7, k8, k9, k10⟩, rfl, hcf, hq⟩, hb⟩; have B2 : Hid (Below W0.heap.size W0 w2) := Lib.hid (hb0to hb0.out (by first | exact hb | exact hb0to (drew_below _) hb)); have HG := Lib.hid (CopRet.fair hcf hq).1; obtain ⟨g0, g1, g2, g3, g4, g5, g6, g7⟩ := (HB.out.of (B2.out.block _ HB.out.lt)).cells; clear hcf hq hb))
        go_wp2_with (fail)
        go_ret2
        exact ⟨NumEnd.mk (by rw [HWR.out, HK.out]), hb0to HBW.out B5.out⟩

end Go.Proofs.Ytmconopnplgcfaa
