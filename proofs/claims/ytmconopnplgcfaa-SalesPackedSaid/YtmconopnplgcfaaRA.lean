import Derived.Test.YtmconopnplgcfaaFJ
namespace Go.Proofs.Ytmconopnplgcfaa
open Go.RowKit

/-! The specification's IsBuyer 17, IsBid 35, IsDay 27, Check 48, ask 82. -/
theorem rwithin_any (n lo hi : Int) (w : World) : Calls Try.prog 64 #[.int .i64 n, .int .i64 lo, .int .i64 hi] w fun e w' => e = .returned (.bool (inR n lo hi)) ∧ w = w' := by
  go_enter Try.func64, Try.ntmps64
  go_wp2_with (go_at_call 18; refine (within1_any _ _ _ _).mono ?_; rintro e w' ⟨rfl, rfl⟩)
  go_ret
  exact ⟨rfl, rfl⟩
theorem rIsDay_any (n : Int) (w : World) : Calls Try.prog 27 #[.int .i64 n] w fun e w' => e = .returned (.bool (inR n 0 20)) ∧ w = w' := by
  go_enter Try.func27, Try.ntmps27
  go_wp2_with (go_at_call 64; refine (rwithin_any _ _ _ _).mono ?_; rintro e w' ⟨rfl, rfl⟩)
  go_ret
  exact ⟨rfl, rfl⟩
set_option maxRecDepth 100000 in
set_option maxHeartbeats 4000000 in
theorem rIsBid_any (F : FL) (f : Fair) (n : Int) (hq : f.q.length ≤ 1000) (w : World) : Calls Try.prog 35 #[F.enc f, .int .i64 n] w fun e w' => e = .returned (.bool (isBid f n)) ∧ Below w.heap.size w w' := by
  have hbw := al_below w (.cells #[.slice F.L.Ak f.h.ks.length F.L.ck, .int .i64 f.h.fl, .slice F.L.Ap f.h.ps.length F.L.cp, .slice F.L.Ab f.h.bs.length F.L.cb, .slice F.Ap f.pk.length F.cp, .int .i64 f.day, .int .i64 f.nb, .slice F.Aq f.q.length F.cq] 29)
  obtain ⟨c0, c1, c2, c3, c4, c5, c6, c7⟩ := (FBox.new w F f).cells
  obtain ⟨W0, hW0⟩ : ∃ W0, w.alloc (.cells #[.slice F.L.Ak f.h.ks.length F.L.ck, .int .i64 f.h.fl, .slice F.L.Ap f.h.ps.length F.L.cp, .slice F.L.Ab f.h.bs.length F.L.cb, .slice F.Ap f.pk.length F.cp, .int .i64 f.day, .int .i64 f.nb, .slice F.Aq f.q.length F.cq] 29) = W0 := ⟨_, rfl⟩
  rw [hW0] at hbw c0 c1 c2 c3 c4 c5 c6 c7
  have HBW := Lib.hid hbw
  have HW0 := Lib.hid hW0
  clear hbw hW0 c0 c1 c2 c3 c4 c5 c6
  obtain ⟨L, Ap, cp, Aq, cq⟩ := F
  go_enter Try.func35, Try.ntmps35
  go_upto_region 1 with (fail)
  have e := HW0.out
  rw [e]
  clear e
  go_wp2_with (go_at_call 64; refine (rwithin_any _ _ _ _).mono ?_; rintro e w' ⟨rfl, rfl⟩)
  go_ret
  exact ⟨rfl, HBW.out⟩
set_option maxRecDepth 100000 in
set_option maxHeartbeats 4000000 in
theorem rIsBuyer_any (F : FL) (f : Fair) (n : Int) (h0 : 0 ≤ f.nb) (h4 : f.nb ≤ 4) (w : World) : Calls Try.prog 17 #[F.enc f, .int .i64 n] w fun e w' => e = .returned (.bool (isBuyer f n)) ∧ Below w.heap.size w w' := by
  have hbw := al_below w (.cells #[.slice F.L.Ak f.h.ks.length F.L.ck, .int .i64 f.h.fl, .slice F.L.Ap f.h.ps.length F.L.cp, .slice F.L.Ab f.h.bs.length F.L.cb, .slice F.Ap f.pk.length F.cp, .int .i64 f.day, .int .i64 f.nb, .slice F.Aq f.q.length F.cq] 29)
  obtain ⟨c0, c1, c2, c3, c4, c5, c6, c7⟩ := (FBox.new w F f).cells
  obtain ⟨W0, hW0⟩ : ∃ W0, w.alloc (.cells #[.slice F.L.Ak f.h.ks.length F.L.ck, .int .i64 f.h.fl, .slice F.L.Ap f.h.ps.length F.L.cp, .slice F.L.Ab f.h.bs.length F.L.cb, .slice F.Ap f.pk.length F.cp, .int .i64 f.day, .int .i64 f.nb, .slice F.Aq f.q.length F.cq] 29) = W0 := ⟨_, rfl⟩
  rw [hW0] at hbw c0 c1 c2 c3 c4 c5 c6 c7
  have HBW := Lib.hid hbw
  have HW0 := Lib.hid hW0
  clear hbw hW0 c0 c1 c2 c3 c4 c5 c7
  obtain ⟨L, Ap, cp, Aq, cq⟩ := F
  go_enter Try.func17, Try.ntmps17
  go_upto_region 1 with (fail)
  have e := HW0.out
  rw [e]
  clear e
  go_wp2_with (go_at_call 64; refine (rwithin_any _ _ _ _).mono ?_; rintro e w' ⟨rfl, rfl⟩)
  go_ret
  exact ⟨rfl, HBW.out⟩
set_option maxRecDepth 100000 in
set_option maxHeartbeats 4000000 in
theorem wrap64_eq (n : Int) : wrap64 n = IntKind.i64.wrap n := (IntWalk.i64_left n).symm
theorem rIsBuyerW_any (F : FL) (f : Fair) (n : Int) (w : World) : Calls Try.prog 17 #[F.enc f, .int .i64 n] w fun e w' => e = .returned (.bool (inR n 0 (wrap64 (f.nb - 1)))) ∧ Below w.heap.size w w' := by
  have hbw := al_below w (.cells #[.slice F.L.Ak f.h.ks.length F.L.ck, .int .i64 f.h.fl, .slice F.L.Ap f.h.ps.length F.L.cp, .slice F.L.Ab f.h.bs.length F.L.cb, .slice F.Ap f.pk.length F.cp, .int .i64 f.day, .int .i64 f.nb, .slice F.Aq f.q.length F.cq] 29)
  obtain ⟨c0, c1, c2, c3, c4, c5, c6, c7⟩ := (FBox.new w F f).cells
  obtain ⟨W0, hW0⟩ : ∃ W0, w.alloc (.cells #[.slice F.L.Ak f.h.ks.length F.L.ck, .int .i64 f.h.fl, .slice F.L.Ap f.h.ps.length F.L.cp, .slice F.L.Ab f.h.bs.length F.L.cb, .slice F.Ap f.pk.length F.cp, .int .i64 f.day, .int .i64 f.nb, .slice F.Aq f.q.length F.cq] 29) = W0 := ⟨_, rfl⟩
  rw [hW0] at hbw c0 c1 c2 c3 c4 c5 c6 c7
  have HBW := Lib.hid hbw
  have HW0 := Lib.hid hW0
  clear hbw hW0 c0 c1 c2 c3 c4 c5 c7
  obtain ⟨L, Ap, cp, Aq, cq⟩ := F
  go_enter Try.func17, Try.ntmps17
  go_upto_region 1 with (fail)
  have e := HW0.out
  rw [e]
  clear e
  go_wp2_with (go_at_call 64; refine (rwithin_any _ _ _ _).mono ?_; rintro e w' ⟨rfl, rfl⟩)
  go_ret
  exact ⟨rfl, HBW.out⟩
set_option maxRecDepth 100000 in
set_option maxHeartbeats 4000000 in
theorem rcheckF_any (F : FL) (f : Fair) (hn : FN f) (w : World) (hF : FairAt w w.heap.size F f) : Calls Try.prog 48 #[F.enc f] w fun e w' => e = .returned (.int .i64 (ckF f)) ∧ Below w.heap.size w w' := by
  have hbw := al_below w (.cells #[.slice F.L.Ak f.h.ks.length F.L.ck, .int .i64 f.h.fl, .slice F.L.Ap f.h.ps.length F.L.cp, .slice F.L.Ab f.h.bs.length F.L.cb, .slice F.Ap f.pk.length F.cp, .int .i64 f.day, .int .i64 f.nb, .slice F.Aq f.q.length F.cq] 29)
  have HB := Lib.hid (FBox.new w F f)
  obtain ⟨c0, c1, c2, c3, c4, c5, c6, c7⟩ := (FBox.new w F f).cells
  obtain ⟨W0, hW0⟩ : ∃ W0, w.alloc (.cells #[.slice F.L.Ak f.h.ks.length F.L.ck, .int .i64 f.h.fl, .slice F.L.Ap f.h.ps.length F.L.cp, .slice F.L.Ab f.h.bs.length F.L.cb, .slice F.Ap f.pk.length F.cp, .int .i64 f.day, .int .i64 f.nb, .slice F.Aq f.q.length F.cq] 29) = W0 := ⟨_, rfl⟩
  rw [hW0] at hbw HB c0 c1 c2 c3 c4 c5 c6 c7
  have HBW := Lib.hid hbw
  have HW0 := Lib.hid hW0
  have HF := Lib.hid (hF.below hbw)
  clear hbw hW0 hF
  have HN := Lib.hid hn
  have hqn := hn.q
  clear hn
  obtain ⟨L, Ap, cp, Aq, cq⟩ := F
  cases hv : validH f.h
  · rw [ckF_no (valid_no1 (by simp [packOK, hv]))]
    have H87 := Lib.hid (by have := rcheck_any L f.h HN.out.h W0 HF.out.h; rw [ckH_no hv] at this; exact this)
    clear hv
    go_enter Try.func48, Try.ntmps48
    go_upto_region 1 with (fail)
    have e := HW0.out
    rw [e]
    clear e
    go_wp2_with (first
      | (go_at_call 87; refine H87.out.mono ?_; rintro e W1 ⟨rfl, hb1⟩; have B1 := Lib.hid hb1; clear hb1))
    go_ret
    exact ⟨rfl, hb0to HBW.out B1.out⟩
  have HV := Lib.hid (HOK.ofValid hv)
  have H87 := Lib.hid (by have := rcheck_any L f.h HN.out.h W0 HF.out.h; rw [ckH_yes hv] at this; exact this)
  cases hg : goodB f.h f.pk
  · rw [ckF_no (valid_no1 (by simp [packOK, hg]))]
    have H88 := Lib.hid (fun W h1 h2 => by have := isPacking_any L f.h HV.out f.pk HN.out.p Ap cp W h1 h2; rw [hg] at this; exact this)
    clear hv hg
    go_enter Try.func48, Try.ntmps48
    go_upto_region 1 with (fail)
    have e := HW0.out
    rw [e]
    clear e
    go_wp2_with (first
      | (go_at_call 87; refine H87.out.mono ?_; rintro e W1 ⟨rfl, hb1⟩; have B1 := Lib.hid hb1; obtain ⟨g0, g1, g2, g3, g4, g5, g6, g7⟩ := (HB.out.of (hb1.block _ HB.out.lt)).cells; clear hb1)
      | (go_at_call 88; refine (H88.out W1 (HF.out.below B1.out).h (HF.out.below B1.out).p).mono ?_; rintro e W2 ⟨rfl, hb2⟩; have B2 := Lib.hid (hb0to B1.out hb2); clear hb2))
    go_ret
    exact ⟨rfl, hb0to HBW.out B2.out⟩
  have HPK : Hid (packOK f = true) := Lib.hid (by simp [packOK, hv, hg])
  have H88 := Lib.hid (fun W h1 h2 => by have := isPacking_any L f.h HV.out f.pk HN.out.p Ap cp W h1 h2; rw [hg] at this; exact this)
  clear hv hg
  cases h1 : inR f.day 0 20
  · rw [ckF_no (valid_no2 (by simp [numsOK, h1]))]
    go_enter Try.func48, Try.ntmps48
    go_upto_region 1 with (fail)
    have e := HW0.out
    rw [e]
    clear e
    go_wp2_with (first
      | (go_at_call 87; refine H87.out.mono ?_; rintro e W1 ⟨rfl, hb1⟩; have B1 := Lib.hid hb1; obtain ⟨g0, g1, g2, g3, g4, g5, g6, g7⟩ := (HB.out.of (hb1.block _ HB.out.lt)).cells; clear hb1)
      | (go_at_call 88; refine (H88.out W1 (HF.out.below B1.out).h (HF.out.below B1.out).p).mono ?_; rintro e W2 ⟨rfl, hb2⟩; have B2 := Lib.hid (hb0to B1.out hb2); obtain ⟨g0, g1, g2, g3, g4, g5, g6, g7⟩ := (HB.out.of (B2.out.block _ HB.out.lt)).cells; clear hb2)
      | (go_at_call 64; refine (rwithin_any _ _ _ _).mono ?_; rintro e w' ⟨rfl, rfl⟩))
    go_ret
    exact ⟨rfl, hb0to HBW.out B2.out⟩
  cases h2 : inR f.nb 0 4
  · rw [ckF_no (valid_no2 (by simp [numsOK, h2]))]
    go_enter Try.func48, Try.ntmps48
    go_upto_region 1 with (fail)
    have e := HW0.out
    rw [e]
    clear e
    go_wp2_with (first
      | (go_at_call 87; refine H87.out.mono ?_; rintro e W1 ⟨rfl, hb1⟩; have B1 := Lib.hid hb1; obtain ⟨g0, g1, g2, g3, g4, g5, g6, g7⟩ := (HB.out.of (hb1.block _ HB.out.lt)).cells; clear hb1)
      | (go_at_call 88; refine (H88.out W1 (HF.out.below B1.out).h (HF.out.below B1.out).p).mono ?_; rintro e W2 ⟨rfl, hb2⟩; have B2 := Lib.hid (hb0to B1.out hb2); obtain ⟨g0, g1, g2, g3, g4, g5, g6, g7⟩ := (HB.out.of (B2.out.block _ HB.out.lt)).cells; clear hb2)
      | (go_at_call 64; refine (rwithin_any _ _ _ _).mono ?_; rintro e w' ⟨rfl, rfl⟩))
    go_ret
    exact ⟨rfl, hb0to HBW.out B2.out⟩
  have hnbr := inR_true.1 h2
  by_cases h3 : 8 < f.q.length
  · rw [ckF_no (valid_no2 (by simp [numsOK]; omega))]
    go_enter Try.func48, Try.ntmps48
    go_upto_region 1 with (fail)
    have e := HW0.out
    rw [e]
    clear e
    go_wp2_with (first
      | (go_at_call 87; refine H87.out.mono ?_; rintro e W1 ⟨rfl, hb1⟩; have B1 := Lib.hid hb1; obtain ⟨g0, g1, g2, g3, g4, g5, g6, g7⟩ := (HB.out.of (hb1.block _ HB.out.lt)).cells; clear hb1)
      | (go_at_call 88; refine (H88.out W1 (HF.out.below B1.out).h (HF.out.below B1.out).p).mono ?_; rintro e W2 ⟨rfl, hb2⟩; have B2 := Lib.hid (hb0to B1.out hb2); obtain ⟨g0, g1, g2, g3, g4, g5, g6, g7⟩ := (HB.out.of (B2.out.block _ HB.out.lt)).cells; clear hb2)
      | (go_at_call 64; refine (rwithin_any _ _ _ _).mono ?_; rintro e w' ⟨rfl, rfl⟩))
    go_ret
    exact ⟨rfl, hb0to HBW.out B2.out⟩
  have HNU : Hid (numsOK f = true) := Lib.hid (by simp [numsOK, h1, h2]; omega)
  go_enter Try.func48, Try.ntmps48
  go_upto_region 1 with (fail)
  have e := HW0.out
  rw [e]
  clear e
  go_wp2_with (first
    | (go_at_call 87; refine H87.out.mono ?_; rintro e W1 ⟨rfl, hb1⟩; have B1 := Lib.hid hb1; obtain ⟨g0, g1, g2, g3, g4, g5, g6, g7⟩ := (HB.out.of (hb1.block _ HB.out.lt)).cells; clear hb1)
    | (go_at_call 88; refine (H88.out W1 (HF.out.below B1.out).h (HF.out.below B1.out).p).mono ?_; rintro e W2 ⟨rfl, hb2⟩; have B2 := Lib.hid (hb0to B1.out hb2); obtain ⟨g0, g1, g2, g3, g4, g5, g6, g7⟩ := (HB.out.of (B2.out.block _ HB.out.lt)).cells; clear hb2)
    | (go_at_call 64; refine (rwithin_any _ _ _ _).mono ?_; rintro e w' ⟨rfl, rfl⟩))
  clear h1 h2 g0 g1 g2 g3 g4 g5 g6 g7
  go_loopw [3] (fun i wr => ∃ k : Nat, k ≤ f.q.length ∧ i = .int .i64 k ∧ Hid (∀ j b, j < k → f.q[j]? = some b → bidOK f b = true) ∧ Hid (Below W0.heap.size W0 wr)) (fun i _ => f.q.length - (intOf i).toNat)
  case atStart => exact ⟨0, Nat.zero_le _, rfl, Lib.hid (fun j x hj => by omega), B2⟩
  case round =>
    obtain ⟨k, hk, rfl, hok, hb⟩ := hrel
    have hFr := HB.out.of (hb.out.block _ HB.out.lt)
    obtain ⟨g0, g1, g2, g3, g4, g5, g6, g7⟩ := hFr.cells
    by_cases hlt : k < f.q.length
    · obtain ⟨x, hx⟩ : ∃ x, f.q[k]? = some x := ⟨_, List.getElem?_eq_getElem hlt⟩
      obtain ⟨bk, ok, A', c', eA, hbk, d1, d2, d3, hA', hI⟩ := HF.out.q.at_ hx
      have e1 := below_cell hb.out d1
      have e2 := below_cell hb.out d2
      have e3 := below_cell hb.out d3
      have hx4 := HN.out.b x (List.mem_of_getElem? hx)
      have hbs := HN.out.h.2.2
      have HX := Lib.hid hx
      have HI := Lib.hid hI
      rw [show Aq = _ from eA] at g7
      have hb5 := al_below wr (.cells #[.int .i64 x.who, .slice A' x.bar.length c', .int .i64 x.pay] 38)
      have hbb := BBox.new wr A' c' x
      obtain ⟨W5, hW5⟩ : ∃ W5, wr.alloc (.cells #[.int .i64 x.who, .slice A' x.bar.length c', .int .i64 x.pay] 38) = W5 := ⟨_, rfl⟩
      rw [hW5] at hb5 hbb
      have HBB := Lib.hid hbb
      have HB5 := Lib.hid (hb0to hb.out hb5)
      have HW5 := Lib.hid hW5
      have HF5 := Lib.hid (HF.out.below HB5.out)
      have HFB := Lib.hid (HB.out.of (HB5.out.block _ HB.out.lt))
      have HEA := Lib.hid eA
      clear hx hI hA' d1 d2 d3 hb5 hbb hW5 hFr eA
      go_upto_region 9 with (fail)
      have e := HW5.out
      rw [e]
      clear e g0 g1 g2 g3 g4 g5 g6 g7 e1 e2 e3
      obtain ⟨k0, k1, k2⟩ := HBB.out.cells
      obtain ⟨g0, g1, g2, g3, g4, g5, g6, g7⟩ := HFB.out.cells
      cases h1 : isBuyer f x.who
      · have hno : Hid (bidOK f x = false) := Lib.hid (by have : inR x.who 0 (f.nb - 1) = false := h1; simp [bidOK, this])
        have H17 := Lib.hid (by have := rIsBuyer_any ⟨L, Ap, cp, Aq, cq⟩ f x.who hnbr.1 hnbr.2 W5; rw [h1] at this; exact this)
        clear h1
        go_wp2_with (go_at_call 17; refine H17.out.mono ?_; rintro e W6 ⟨rfl, hb6⟩; have B6 := Lib.hid (hb0to HB5.out hb6); clear hb6)
        go_ret
        exact ⟨by rw [ckF_no (bids_no HX.out hno.out)]; rfl, hb0to HBW.out B6.out⟩
      have H17 := Lib.hid (by have := rIsBuyer_any ⟨L, Ap, cp, Aq, cq⟩ f x.who hnbr.1 hnbr.2 W5; rw [h1] at this; exact this)
      by_cases h3 : x.bar.length = 0
      · have hno : Hid (bidOK f x = false) := Lib.hid (by simp [bidOK, List.length_eq_zero_iff.1 h3])
        have h3' : ((x.bar.length : Int) == 0) = true := by simpa using h3
        clear h1 h3
        go_wp2_with (go_at_call 17; refine H17.out.mono ?_; rintro e W6 ⟨rfl, hb6⟩; have B6 := Lib.hid (hb0to HB5.out hb6); have p1 := below_cell hb6 k1; clear hb6)
        go_ret
        exact ⟨by rw [ckF_no (bids_no HX.out hno.out)]; rfl, hb0to HBW.out B6.out⟩
      have h3' : ((x.bar.length : Int) == 0) = false := by simpa using h3
      have H89 := Lib.hid (fun W (hW : Below W5.heap.size W5 W) => rising_any x.bar hx4 f.h.bs.length A' c' W (ints_later HI.out (hb0to HB5.out hW)))
      cases h4 : riseB x.bar f.h.bs.length
      · have hno : Hid (bidOK f x = false) := Lib.hid (by simp [bidOK, h4])
        rw [h4] at H89
        clear h1 h3 h4
        go_wp2_with (first
          | (go_at_call 17; refine H17.out.mono ?_; rintro e W6 ⟨rfl, hb6⟩; have B6 := Lib.hid hb6; have p1 := below_cell hb6 k1; have p3 := below_cell hb6 g3; clear hb6)
          | (go_at_call 89; refine (H89.out W6 B6.out).mono ?_; rintro e W7 ⟨rfl, hb7⟩; have B7 := Lib.hid (hb0to B6.out hb7); clear hb7))
        go_ret
        exact ⟨by rw [ckF_no (bids_no HX.out hno.out)]; rfl, hb0to HBW.out (hb0to HB5.out B7.out)⟩
      rw [h4] at H89
      cases h5 : inR x.pay 0 99
      · have hno : Hid (bidOK f x = false) := Lib.hid (by simp [bidOK, h5])
        clear h1 h3 h4
        go_wp2_with (first
          | (go_at_call 17; refine H17.out.mono ?_; rintro e W6 ⟨rfl, hb6⟩; have B6 := Lib.hid hb6; have p1 := below_cell hb6 k1; have p3 := below_cell hb6 g3; clear hb6)
          | (go_at_call 89; refine (H89.out W6 B6.out).mono ?_; rintro e W7 ⟨rfl, hb7⟩; have B7 := Lib.hid (hb0to B6.out hb7); have p2 := below_cell B7.out k2; clear hb7)
          | (go_at_call 64; refine (rwithin_any _ _ _ _).mono ?_; rintro e w' ⟨rfl, rfl⟩))
        go_ret
        exact ⟨by rw [ckF_no (bids_no HX.out hno.out)]; rfl, hb0to HBW.out (hb0to HB5.out B7.out)⟩
      have hbk : Hid (bidOK f x = true) := Lib.hid (by have h1' : inR x.who 0 (f.nb - 1) = true := h1; have hne : x.bar ≠ [] := fun e => h3 (by rw [e]; rfl); simp [bidOK, h1', h4, h5, hne])
      clear h1 h3 h4
      go_wp2_with (first
        | (go_at_call 17; refine H17.out.mono ?_; rintro e W6 ⟨rfl, hb6⟩; have B6 := Lib.hid hb6; have p1 := below_cell hb6 k1; have p3 := below_cell hb6 g3; clear hb6)
        | (go_at_call 89; refine (H89.out W6 B6.out).mono ?_; rintro e W7 ⟨rfl, hb7⟩; have B7 := Lib.hid (hb0to B6.out hb7); have p2 := below_cell B7.out k2; clear hb7)
        | (go_at_call 64; refine (rwithin_any _ _ _ _).mono ?_; rintro e w' ⟨rfl, rfl⟩))
      go_roundw
      case rel => exact ⟨k + 1, by omega, by go_num, Lib.hid (fun m b hm hb' => by
        by_cases e : m = k
        · subst e
          have := HX.out.symm.trans hb'
          cases this
          exact hbk.out
        · exact hok.out m b (by omega) hb'), Lib.hid (hb0to HB5.out B7.out)⟩
      case measure => simp [intOf]; omega
    · obtain rfl : k = f.q.length := by omega
      have hall : Hid (f.q.all (bidOK f) = true) := Lib.hid (bids_all hok.out)
      clear hok hlt hk
      go_wp2_with (fail)
      go_ret
      exact ⟨by rw [ckF_yes (by rw [validF, HPK.out, HNU.out, hall.out]; rfl)]; rfl, hb0to HBW.out hb.out⟩
set_option maxRecDepth 100000 in
set_option maxHeartbeats 4000000 in
theorem rask_any (F : FL) (f : Fair) (hn : FN f) (is : Bool) (w : World) (hF : FairAt w w.heap.size F f) : Calls Try.prog 82 #[F.enc f, .bool is] w fun e w' => e = .returned (.int .i64 (askF f is)) ∧ Below w.heap.size w w' := by
  have hbw := al_below w (.cells #[.slice F.L.Ak f.h.ks.length F.L.ck, .int .i64 f.h.fl, .slice F.L.Ap f.h.ps.length F.L.cp, .slice F.L.Ab f.h.bs.length F.L.cb, .slice F.Ap f.pk.length F.cp, .int .i64 f.day, .int .i64 f.nb, .slice F.Aq f.q.length F.cq] 29)
  have HB := Lib.hid (FBox.new w F f)
  obtain ⟨c0, c1, c2, c3, c4, c5, c6, c7⟩ := (FBox.new w F f).cells
  obtain ⟨W0, hW0⟩ : ∃ W0, w.alloc (.cells #[.slice F.L.Ak f.h.ks.length F.L.ck, .int .i64 f.h.fl, .slice F.L.Ap f.h.ps.length F.L.cp, .slice F.L.Ab f.h.bs.length F.L.cb, .slice F.Ap f.pk.length F.cp, .int .i64 f.day, .int .i64 f.nb, .slice F.Aq f.q.length F.cq] 29) = W0 := ⟨_, rfl⟩
  rw [hW0] at hbw HB c0 c1 c2 c3 c4 c5 c6 c7
  have HBW := Lib.hid hbw
  have HW0 := Lib.hid hW0
  have HF := Lib.hid (hF.below hbw)
  clear hbw hW0 hF
  have HC := Lib.hid (rcheckF_any F f hn W0 HF.out)
  clear hn
  obtain ⟨L, Ap, cp, Aq, cq⟩ := F
  cases hv : validF f
  · rw [ckF_no hv] at HC
    rw [askF_bad is hv]
    clear hv
    go_enter Try.func82, Try.ntmps82
    go_upto_region 1 with (fail)
    have e := HW0.out
    rw [e]
    clear e
    go_wp2_with (go_at_call 48; refine HC.out.mono ?_; rintro e w1 ⟨rfl, hb1⟩; have B1 := Lib.hid hb1; clear hb1)
    go_ret
    exact ⟨rfl, hb0to HBW.out B1.out⟩
  · rw [ckF_yes hv] at HC
    have HQ := Lib.hid (show askF f is = if is = false then 1 else 0 by unfold askF; rw [if_neg (by simp [hv])])
    clear hv
    cases is
    all_goals
      go_enter Try.func82, Try.ntmps82
      go_upto_region 1 with (fail)
      have e := HW0.out
      rw [e]
      clear e
      go_wp2_with (go_at_call 48; refine HC.out.mono ?_; rintro e w1 ⟨rfl, hb1⟩; have B1 := Lib.hid hb1; clear hb1)
      go_ret
      exact ⟨by rw [HQ.out]; rfl, hb0to HBW.out B1.out⟩

end Go.Proofs.Ytmconopnplgcfaa
