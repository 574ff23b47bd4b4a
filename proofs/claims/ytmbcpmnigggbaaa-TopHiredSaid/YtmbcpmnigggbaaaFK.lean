import Derived.Test.YtmbcpmnigggbaaaFJ
namespace Go.Proofs.Ytmbcpmnigggbaaa
open Go.RowKit

/-! The specification's IsBuyer 17, IsBid 35, IsDay 27, Check 48, ask 82. -/
theorem rwithin_any (n lo hi : Int) (w : World) : Calls Try.prog 86 #[.int .i64 n, .int .i64 lo, .int .i64 hi] w fun e w' => e = .returned (.bool (inR n lo hi)) ∧ w = w' := by
  go_enter Try.func86, Try.ntmps86
  go_wp2_with (go_at_call 28; refine (within1_any _ _ _ _).mono ?_; rintro e w' ⟨rfl, rfl⟩)
  go_ret
  exact ⟨rfl, rfl⟩
set_option maxRecDepth 100000 in
set_option maxHeartbeats 4000000 in
theorem rIsBuyer_any (F : FL) (f : Fair) (n : Int) (h0 : 0 ≤ f.nb) (h4 : f.nb ≤ 4) (w : World) : Calls Try.prog 87 #[F.enc f, .int .i64 n] w fun e w' => e = .returned (.bool (isBuyer f n)) ∧ Below w.heap.size w w' := by
  have hbw := al_below w (.cells #[.slice F.L.Ak f.h.ks.length F.L.ck, .int .i64 f.h.fl, .slice F.L.Ap f.h.ps.length F.L.cp, .slice F.L.Ab f.h.bs.length F.L.cb, .slice F.Ap f.pk.length F.cp, .int .i64 f.day, .int .i64 f.nb, .slice F.Aq f.q.length F.cq] 62)
  obtain ⟨c0, c1, c2, c3, c4, c5, c6, c7⟩ := (FBox.new w F f).cells
  obtain ⟨W0, hW0⟩ : ∃ W0, w.alloc (.cells #[.slice F.L.Ak f.h.ks.length F.L.ck, .int .i64 f.h.fl, .slice F.L.Ap f.h.ps.length F.L.cp, .slice F.L.Ab f.h.bs.length F.L.cb, .slice F.Ap f.pk.length F.cp, .int .i64 f.day, .int .i64 f.nb, .slice F.Aq f.q.length F.cq] 62) = W0 := ⟨_, rfl⟩
  rw [hW0] at hbw c0 c1 c2 c3 c4 c5 c6 c7
  have HBW := Lib.hid hbw
  have HW0 := Lib.hid hW0
  clear hbw hW0 c0 c1 c2 c3 c4 c5 c7
  obtain ⟨L, Ap, cp, Aq, cq⟩ := F
  go_enter Try.func87, Try.ntmps87
  go_upto_region 1 with (fail)
  have e := HW0.out
  rw [e]
  clear e
  go_wp2_with (go_at_call 86; refine (rwithin_any _ _ _ _).mono ?_; rintro e w' ⟨rfl, rfl⟩)
  go_ret
  exact ⟨rfl, HBW.out⟩
set_option maxRecDepth 100000 in
set_option maxHeartbeats 4000000 in
theorem rcheckF_any (F : FL) (f : Fair) (hn : FN f) (w : World) (hF : FairAt w w.heap.size F f) : Calls Try.prog 32 #[F.enc f] w fun e w' => e = .returned (.int .i64 (ckF f)) ∧ Below w.heap.size w w' := by
  have hbw := al_below w (.cells #[.slice F.L.Ak f.h.ks.length F.L.ck, .int .i64 f.h.fl, .slice F.L.Ap f.h.ps.length F.L.cp, .slice F.L.Ab f.h.bs.length F.L.cb, .slice F.Ap f.pk.length F.cp, .int .i64 f.day, .int .i64 f.nb, .slice F.Aq f.q.length F.cq] 62)
  have HB := Lib.hid (FBox.new w F f)
  obtain ⟨c0, c1, c2, c3, c4, c5, c6, c7⟩ := (FBox.new w F f).cells
  obtain ⟨W0, hW0⟩ : ∃ W0, w.alloc (.cells #[.slice F.L.Ak f.h.ks.length F.L.ck, .int .i64 f.h.fl, .slice F.L.Ap f.h.ps.length F.L.cp, .slice F.L.Ab f.h.bs.length F.L.cb, .slice F.Ap f.pk.length F.cp, .int .i64 f.day, .int .i64 f.nb, .slice F.Aq f.q.length F.cq] 62) = W0 := ⟨_, rfl⟩
  rw [hW0] at hbw HB c0 c1 c2 c3 c4 c5 c6 c7
  have HBW := Lib.hid hbw
  have HW0 := Lib.hid hW0
  have HF := Lib.hid (hF.below hbw)
  clear hbw hW0 hF
  have HN := Lib.hid hn
  have hqn := hn.q
  clear hn
  obtain ⟨L, Ap, cp, Aq, cq⟩ := F
  cases hv : validH f.h
  · rw [ckF_no (valid_no1 (by simp [packOK, hv]))]
    have H87 := Lib.hid (by have := rcheck_any L f.h HN.out.h W0 HF.out.h; rw [ckH_no hv] at this; exact this)
    clear hv
    go_enter Try.func32, Try.ntmps32
    go_upto_region 1 with (fail)
    have e := HW0.out
    rw [e]
    clear e
    go_wp2_with (first
      | (go_at_call 11; refine H87.out.mono ?_; rintro e W1 ⟨rfl, hb1⟩; have B1 := Lib.hid hb1; clear hb1))
    go_ret
    exact ⟨rfl, hb0to HBW.out B1.out⟩
  have HV := Lib.hid (HOK.ofValid hv)
  have H87 := Lib.hid (by have := rcheck_any L f.h HN.out.h W0 HF.out.h; rw [ckH_yes hv] at this; exact this)
  cases hg : goodB f.h f.pk
  · rw [ckF_no (valid_no1 (by simp [packOK, hg]))]
    have H88 := Lib.hid (fun W h1 h2 => by have := isPacking_any L f.h HV.out f.pk HN.out.p Ap cp W h1 h2; rw [hg] at this; exact this)
    clear hv hg
    go_enter Try.func32, Try.ntmps32
    go_upto_region 1 with (fail)
    have e := HW0.out
    rw [e]
    clear e
    go_wp2_with (first
      | (go_at_call 11; refine H87.out.mono ?_; rintro e W1 ⟨rfl, hb1⟩; have B1 := Lib.hid hb1; obtain ⟨g0, g1, g2, g3, g4, g5, g6, g7⟩ := (HB.out.of (hb1.block _ HB.out.lt)).cells; clear hb1)
      | (go_at_call 85; refine (H88.out W1 (HF.out.below B1.out).h (HF.out.below B1.out).p).mono ?_; rintro e W2 ⟨rfl, hb2⟩; have B2 := Lib.hid (hb0to B1.out hb2); clear hb2))
    go_ret
    exact ⟨rfl, hb0to HBW.out B2.out⟩
  have HPK : Hid (packOK f = true) := Lib.hid (by simp [packOK, hv, hg])
  have H88 := Lib.hid (fun W h1 h2 => by have := isPacking_any L f.h HV.out f.pk HN.out.p Ap cp W h1 h2; rw [hg] at this; exact this)
  clear hv hg
  cases h1 : inR f.day 0 20
  · rw [ckF_no (valid_no2 (by simp [numsOK, h1]))]
    go_enter Try.func32, Try.ntmps32
    go_upto_region 1 with (fail)
    have e := HW0.out
    rw [e]
    clear e
    go_wp2_with (first
      | (go_at_call 11; refine H87.out.mono ?_; rintro e W1 ⟨rfl, hb1⟩; have B1 := Lib.hid hb1; obtain ⟨g0, g1, g2, g3, g4, g5, g6, g7⟩ := (HB.out.of (hb1.block _ HB.out.lt)).cells; clear hb1)
      | (go_at_call 85; refine (H88.out W1 (HF.out.below B1.out).h (HF.out.below B1.out).p).mono ?_; rintro e W2 ⟨rfl, hb2⟩; have B2 := Lib.hid (hb0to B1.out hb2); obtain ⟨g0, g1, g2, g3, g4, g5, g6, g7⟩ := (HB.out.of (B2.out.block _ HB.out.lt)).cells; clear hb2)
      | (go_at_call 86; refine (rwithin_any _ _ _ _).mono ?_; rintro e w' ⟨rfl, rfl⟩))
    go_ret
    exact ⟨rfl, hb0to HBW.out B2.out⟩
  cases h2 : inR f.nb 0 4
  · rw [ckF_no (valid_no2 (by simp [numsOK, h2]))]
    go_enter Try.func32, Try.ntmps32
    go_upto_region 1 with (fail)
    have e := HW0.out
    rw [e]
    clear e
    go_wp2_with (first
      | (go_at_call 11; refine H87.out.mono ?_; rintro e W1 ⟨rfl, hb1⟩; have B1 := Lib.hid hb1; obtain ⟨g0, g1, g2, g3, g4, g5, g6, g7⟩ := (HB.out.of (hb1.block _ HB.out.lt)).cells; clear hb1)
      | (go_at_call 85; refine (H88.out W1 (HF.out.below B1.out).h (HF.out.below B1.out).p).mono ?_; rintro e W2 ⟨rfl, hb2⟩; have B2 := Lib.hid (hb0to B1.out hb2); obtain ⟨g0, g1, g2, g3, g4, g5, g6, g7⟩ := (HB.out.of (B2.out.block _ HB.out.lt)).cells; clear hb2)
      | (go_at_call 86; refine (rwithin_any _ _ _ _).mono ?_; rintro e w' ⟨rfl, rfl⟩))
    go_ret
    exact ⟨rfl, hb0to HBW.out B2.out⟩
  have hnbr := inR_true.1 h2
  by_cases h3 : 8 < f.q.length
  · rw [ckF_no (valid_no2 (by simp [numsOK]; omega))]
    go_enter Try.func32, Try.ntmps32
    go_upto_region 1 with (fail)
    have e := HW0.out
    rw [e]
    clear e
    go_wp2_with (first
      | (go_at_call 11; refine H87.out.mono ?_; rintro e W1 ⟨rfl, hb1⟩; have B1 := Lib.hid hb1; obtain ⟨g0, g1, g2, g3, g4, g5, g6, g7⟩ := (HB.out.of (hb1.block _ HB.out.lt)).cells; clear hb1)
      | (go_at_call 85; refine (H88.out W1 (HF.out.below B1.out).h (HF.out.below B1.out).p).mono ?_; rintro e W2 ⟨rfl, hb2⟩; have B2 := Lib.hid (hb0to B1.out hb2); obtain ⟨g0, g1, g2, g3, g4, g5, g6, g7⟩ := (HB.out.of (B2.out.block _ HB.out.lt)).cells; clear hb2)
      | (go_at_call 86; refine (rwithin_any _ _ _ _).mono ?_; rintro e w' ⟨rfl, rfl⟩))
    go_ret
    exact ⟨rfl, hb0to HBW.out B2.out⟩
  have HNU : Hid (numsOK f = true) := Lib.hid (by simp [numsOK, h1, h2]; omega)
  go_enter Try.func32, Try.ntmps32
  go_upto_region 1 with (fail)
  have e := HW0.out
  rw [e]
  clear e
  go_wp2_with (first
    | (go_at_call 11; refine H87.out.mono ?_; rintro e W1 ⟨rfl, hb1⟩; have B1 := Lib.hid hb1; obtain ⟨g0, g1, g2, g3, g4, g5, g6, g7⟩ := (HB.out.of (hb1.block _ HB.out.lt)).cells; clear hb1)
    | (go_at_call 85; refine (H88.out W1 (HF.out.below B1.out).h (HF.out.below B1.out).p).mono ?_; rintro e W2 ⟨rfl, hb2⟩; have B2 := Lib.hid (hb0to B1.out hb2); obtain ⟨g0, g1, g2, g3, g4, g5, g6, g7⟩ := (HB.out.of (B2.out.block _ HB.out.lt)).cells; clear hb2)
    | (go_at_call 86; refine (rwithin_any _ _ _ _).mono ?_; rintro e w' ⟨rfl, rfl⟩))
  clear h1 h2 g0 g1 g2 g3 g4 g5 g6 g7
  go_loopw [3] (fun i wr => ∃ k : Nat, k ≤ f.q.length ∧ i = .int .i64 k ∧ Hid (∀ j b, j < k → f.q[j]? = some b → bidOK f b = true) ∧ Hid (Below W0.heap.size W0 wr)) (fun i _ => f.q.length - (intOf i).toNat)
  case atStart => exact ⟨0, Nat.zero_le _, rfl, Lib.hid (fun j x hj => by omega), B2⟩
  case round =>
    obtain ⟨k, hk, rfl, hok, hb⟩ := hrel
    have hFr := HB.out.of (hb.out.block _ HB.out.lt)
    obtain ⟨g0, g1, g2, g3, g4, g5, g6, g7⟩ := hFr.cells
    by_cases hlt : k < f.q.length
    · obtain ⟨x, hx⟩ : ∃ x, f.q[k]? = some x := ⟨_, List.getElem?_eq_getElem hlt⟩
      obtain ⟨bk, ok, A', c', eA, hbk, d1, d2, d3, hA', hI⟩ := HF.out.q.at_ hx
      have e1 := below_cell hb.out d1
      have e2 := below_cell hb.out d2
      have e3 := below_cell hb.out d3
      have hx4 := HN.out.b x (List.mem_of_getElem? hx)
      have hbs := HN.out.h.2.2
      have HX := Lib.hid hx
      have HI := Lib.hid hI
      rw [show Aq = _ from eA] at g7
      have hb5 := al_below wr (.cells #[.int .i64 x.who, .slice A' x.bar.length c', .int .i64 x.pay] 68)
      have hbb := BBox.new wr A' c' x
      obtain ⟨W5, hW5⟩ : ∃ W5, wr.alloc (.cells #[.int .i64 x.who, .slice A' x.bar.length c', .int .i64 x.pay] 68) = W5 := ⟨_, rfl⟩
      rw [hW5] at hb5 hbb
      have HBB := Lib.hid hbb
      have HB5 := Lib.hid (hb0to hb.out hb5)
      have HW5 := Lib.hid hW5
      have HF5 := Lib.hid (HF.out.below HB5.out)
      have HFB := Lib.hid (HB.out.of (HB5.out.block _ HB.out.lt))
      have HEA := Lib.hid eA
      clear hx hI hA' d1 d2 d3 hb5 hbb hW5 hFr eA
      go_upto_region 9 with (fail)
      have e := HW5.out
      rw [e]
      clear e g0 g1 g2 g3 g4 g5 g6 g7 e1 e2 e3
      obtain ⟨k0, k1, k2⟩ := HBB.out.cells
      obtain ⟨g0, g1, g2, g3, g4, g5, g6, g7⟩ := HFB.out.cells
      cases h1 : isBuyer f x.who
      · have hno : Hid (bidOK f x = false) := Lib.hid (by have : inR x.who 0 (f.nb - 1) = false := h1; simp [bidOK, this])
        have H17 := Lib.hid (by have := rIsBuyer_any ⟨L, Ap, cp, Aq, cq⟩ f x.who hnbr.1 hnbr.2 W5; rw [h1] at this; exact this)
        clear h1
        go_wp2_with (go_at_call 87; refine H17.out.mono ?_; rintro e W6 ⟨rfl, hb6⟩; have B6 := Lib.hid (hb0to HB5.out hb6); clear hb6)
        go_ret
        exact ⟨by rw [ckF_no (bids_no HX.out hno.out)]; rfl, hb0to HBW.out B6.out⟩
      have H17 := Lib.hid (by have := rIsBuyer_any ⟨L, Ap, cp, Aq, cq⟩ f x.who hnbr.1 hnbr.2 W5; rw [h1] at this; exact this)
      by_cases h3 : x.bar.length = 0
      · have hno : Hid (bidOK f x = false) := Lib.hid (by simp [bidOK, List.length_eq_zero_iff.1 h3])
        have h3' : ((x.bar.length : Int) == 0) = true := by simpa using h3
        clear h1 h3
        go_wp2_with (go_at_call 87; refine H17.out.mono ?_; rintro e W6 ⟨rfl, hb6⟩; have B6 := Lib.hid (hb0to HB5.out hb6); have p1 := below_cell hb6 k1; clear hb6)
        go_ret
        exact ⟨by rw [ckF_no (bids_no HX.out hno.out)]; rfl, hb0to HBW.out B6.out⟩
      have h3' : ((x.bar.length : Int) == 0) = false := by simpa using h3
      have H89 := Lib.hid (fun W (hW : Below W5.heap.size W5 W) => rising_any x.bar hx4 f.h.bs.length A' c' W (ints_later HI.out (hb0to HB5.out hW)))
      cases h4 : riseB x.bar f.h.bs.length
      · have hno : Hid (bidOK f x = false) := Lib.hid (by simp [bidOK, h4])
        rw [h4] at H89
        clear h1 h3 h4
        go_wp2_with (first
          | (go_at_call 87; refine H17.out.mono ?_; rintro e W6 ⟨rfl, hb6⟩; have B6 := Lib.hid hb6; have p1 := below_cell hb6 k1; have p3 := below_cell hb6 g3; clear hb6)
          | (go_at_call 88; refine (H89.out W6 B6.out).mono ?_; rintro e W7 ⟨rfl, hb7⟩; have B7 := Lib.hid (hb0to B6.out hb7); clear hb7))
        go_ret
        exact ⟨by rw [ckF_no (bids_no HX.out hno.out)]; rfl, hb0to HBW.out (hb0to HB5.out B7.out)⟩
      rw [h4] at H89
      cases h5 : inR x.pay 0 99
      · have hno : Hid (bidOK f x = false) := Lib.hid (by simp [bidOK, h5])
        clear h1 h3 h4
        go_wp2_with (first
          | (go_at_call 87; refine H17.out.mono ?_; rintro e W6 ⟨rfl, hb6⟩; have B6 := Lib.hid hb6; have p1 := below_cell hb6 k1; have p3 := below_cell hb6 g3; clear hb6)
          | (go_at_call 88; refine (H89.out W6 B6.out).mono ?_; rintro e W7 ⟨rfl, hb7⟩; have B7 := Lib.hid (hb0to B6.out hb7); have p2 := below_cell B7.out k2; clear hb7)
          | (go_at_call 86; refine (rwithin_any _ _ _ _).mono ?_; rintro e w' ⟨rfl, rfl⟩))
        go_ret
        exact ⟨by rw [ckF_no (bids_no HX.out hno.out)]; rfl, hb0to HBW.out (hb0to HB5.out B7.out)⟩
      have hbk : Hid (bidOK f x = true) := Lib.hid (by have h1' : inR x.who 0 (f.nb - 1) = true := h1; have hne : x.bar ≠ [] := fun e => h3 (by rw [e]; rfl); simp [bidOK, h1', h4, h5, hne])
      clear h1 h3 h4
      go_wp2_with (first
        | (go_at_call 87; refine H17.out.mono ?_; rintro e W6 ⟨rfl, hb6⟩; have B6 := Lib.hid hb6; have p1 := below_cell hb6 k1; have p3 := below_cell hb6 g3; clear hb6)
        | (go_at_call 88; refine (H89.out W6 B6.out).mono ?_; rintro e W7 ⟨rfl, hb7⟩; have B7 := Lib.hid (hb0to B6.out hb7); have p2 := below_cell B7.out k2; clear hb7)
        | (go_at_call 86; refine (rwithin_any _ _ _ _).mono ?_; rintro e w' ⟨rfl, rfl⟩))
      go_roundw
      case rel => exact ⟨k + 1, by omega, by go_num, Lib.hid (fun m b hm hb' => by
        by_cases e : m = k
        · subst e
          have := HX.out.symm.trans hb'
          cases this
          exact hbk.out
        · exact hok.out m b (by omega) hb'), Lib.hid (hb0to HB5.out B7.out)⟩
      case measure => simp [intOf]; omega
    · obtain rfl : k = f.q.length := by omega
      have hall : Hid (f.q.all (bidOK f) = true) := Lib.hid (bids_all hok.out)
      clear hok hlt hk
      go_wp2_with (fail)
      go_ret
      exact ⟨by rw [ckF_yes (by rw [validF, HPK.out, HNU.out, hall.out]; rfl)]; rfl, hb0to HBW.out hb.out⟩
end Go.Proofs.Ytmbcpmnigggbaaa
namespace Go.Proofs.Ytmbcpmnigggbaaa
open Go.RowKit

/-! The specification's ReadyOf 90, Ready 49. -/
theorem rise_iff {l : List Int} {n : Int} : riseB l n = true ↔ l.Pairwise (· < ·) ∧ ∀ x ∈ l, 0 ≤ x ∧ x < n := by
  constructor
  · intro h
    have hat : ∀ (k : Nat) (x : Int), l[k]? = some x → (0 ≤ x ∧ x < n) ∧ ∀ y, 0 < k → l[k - 1]? = some y → y < x := fun k x hx => by
      have hk := (List.getElem?_eq_some_iff.1 hx).1
      have h1 := riseB_at h hk
      unfold riseOK at h1
      rw [Bool.and_eq_true, inR_true, show l.getD k 0 = x by simp [List.getD, hx]] at h1
      refine ⟨by omega, fun y hk0 hy => ?_⟩
      rw [show l.getD (k - 1) 0 = y by simp [List.getD, hy]] at h1
      have h2 := h1.2
      rw [Bool.or_eq_true, decide_eq_true_eq] at h2
      rcases h2 with h2 | h2
      · simp at h2; omega
      · exact h2
    refine ⟨?_, fun x hx => by obtain ⟨k, hk⟩ := List.mem_iff_getElem?.1 hx; exact (hat k x hk).1⟩
    rw [List.pairwise_iff_getElem]
    have step : ∀ (d i : Nat) (hi : i < l.length) (hj : i + d + 1 < l.length), l[i] < l[i + d + 1] := fun d => by
      induction d with
      | zero => intro i hi hj; exact (hat (i + 0 + 1) _ (List.getElem?_eq_getElem hj)).2 _ (by omega) (by simp)
      | succ d ih =>
        intro i hi hj
        have h1 := ih i hi (by omega)
        have h2 := (hat (i + (d + 1) + 1) _ (List.getElem?_eq_getElem hj)).2 (l[i + d + 1]'(by omega)) (by omega) (by rw [show i + (d + 1) + 1 - 1 = i + d + 1 by omega]; exact List.getElem?_eq_getElem (by omega))
        omega
    intro i j hi hj hij
    obtain ⟨d, rfl⟩ : ∃ d, j = i + d + 1 := ⟨j - i - 1, by omega⟩
    exact step d i hi hj
  · rintro ⟨h1, h2⟩
    refine riseB_yes fun k hk => ?_
    unfold riseOK
    rw [Bool.and_eq_true, inR_true, Bool.or_eq_true, decide_eq_true_eq]
    have hx : l.getD k 0 = l[k] := by simp [List.getD, List.getElem?_eq_getElem hk]
    have hm := h2 _ (List.getElem_mem hk)
    rw [hx]
    refine ⟨by omega, ?_⟩
    cases k with
    | zero => left; rfl
    | succ k =>
      right
      have hy : l.getD k 0 = l[k] := by simp [List.getD, List.getElem?_eq_getElem (show k < l.length by omega)]
      rw [show k + 1 - 1 = k by omega, hy]
      exact List.pairwise_iff_getElem.1 h1 k (k + 1) (by omega) hk (by omega)
def readyTo (h : House) (pk : List Int) (day : Int) (k : Nat) : List Int := ((List.range k).map fun i : Nat => (i : Int)).filter fun b => decide (b ∈ pk) && dOK h pk day b
theorem readyTo_succ (h : House) (pk : List Int) (day : Int) (k : Nat) : readyTo h pk day (k + 1) = readyTo h pk day k ++ if (decide ((k : Int) ∈ pk) && dOK h pk day k) = true then [(k : Int)] else [] := by
  unfold readyTo
  rw [List.range_succ, List.map_append, List.filter_append]
  congr 1
  cases hh : (decide ((k : Int) ∈ pk) && dOK h pk day k) <;> simp [hh]
theorem readyTo_len (h : House) (pk : List Int) (day : Int) (k : Nat) : (readyTo h pk day k).length ≤ k := by
  unfold readyTo
  refine Nat.le_trans (List.length_filter_le _ _) (by simp)
theorem inOf_nil {pk : List Int} {b : Int} : inOf pk b = [] ↔ b ∉ pk := by
  constructor
  · intro h hb
    obtain ⟨j, hj⟩ := List.getElem?_of_mem hb
    have : (j : Int) ∈ inOf pk b := mem_inTo.2 ⟨j, rfl, (List.getElem?_eq_some_iff.1 hj).1, by simp [barrelOf, List.getD, hj]⟩
    rw [h] at this; simp at this
  · intro h
    refine List.eq_nil_iff_forall_not_mem.2 fun i hi => ?_
    obtain ⟨j, -, hj, hb⟩ := mem_inTo.1 hi
    refine h ?_
    have := List.getElem?_eq_getElem hj
    rw [← hb]
    simp [barrelOf, List.getD, this]
theorem dOK_eq {f : Fair} (hf : FOK f) (day : Int) {b : Nat} (hb : b < f.h.bs.length) : dOK f.h f.pk day b = decide ((caskIn f.h (inOf f.pk b)).d ≤ day) := by
  have hbl := hf.bl
  have hp := goodB_parts hf.p
  unfold dOK
  rw [Int.toNat_natCast, caskOf_packed hp.1 (nb := f.h.bs.length) (hp.2.1.low (by omega)) (by omega) (by omega)]
set_option maxRecDepth 100000 in
set_option maxHeartbeats 4000000 in
theorem readyOf_any (F : FL) (f : Fair) (hn : FN f) (hf : FOK f) (w : World) (hF : FairAt w w.heap.size F f) : Calls Try.prog 95 #[F.enc f] w fun e w' => RowRet (rdF f) w.heap.size w' e ∧ Below w.heap.size w w' := by
  have hbw := al_below w (.cells #[.slice F.L.Ak f.h.ks.length F.L.ck, .int .i64 f.h.fl, .slice F.L.Ap f.h.ps.length F.L.cp, .slice F.L.Ab f.h.bs.length F.L.cb, .slice F.Ap f.pk.length F.cp, .int .i64 f.day, .int .i64 f.nb, .slice F.Aq f.q.length F.cq] 62)
  have HB := Lib.hid (FBox.new w F f)
  obtain ⟨c0, c1, c2, c3, c4, c5, c6, c7⟩ := (FBox.new w F f).cells
  obtain ⟨W0, hW0⟩ : ∃ W0, w.alloc (.cells #[.slice F.L.Ak f.h.ks.length F.L.ck, .int .i64 f.h.fl, .slice F.L.Ap f.h.ps.length F.L.cp, .slice F.L.Ab f.h.bs.length F.L.cb, .slice F.Ap f.pk.length F.cp, .int .i64 f.day, .int .i64 f.nb, .slice F.Aq f.q.length F.cq] 62) = W0 := ⟨_, rfl⟩
  rw [hW0] at hbw HB c0 c1 c2 c3 c4 c5 c6 c7
  have HBW := Lib.hid hbw
  have HW0 := Lib.hid hW0
  have HF := Lib.hid (hF.below hbw)
  clear hbw hW0 hF
  have HN := Lib.hid hn
  have HFO := Lib.hid hf
  have hbl := hf.bl
  have hpl : f.pk.length ≤ 6 := by have := (goodB_parts hf.p).1; have := (HOK.ofValid hf.h).pl; omega
  clear hn hf
  obtain ⟨L, Ap, cp, Aq, cq⟩ := F
  go_enter Try.func95, Try.ntmps95
  go_upto_region 1 with (fail)
  have e := HW0.out
  rw [e]
  clear e
  go_wp2_with (fail)
  go_loopw [3, 4] (fun s i wr => ∃ k : Nat, k ≤ f.h.bs.length ∧ i = .int .i64 k ∧ Hid (Ints wr W0.heap.size s (readyTo f.h f.pk f.day k)) ∧ Hid (Below W0.heap.size W0 wr)) (fun _ i _ => f.h.bs.length - (intOf i).toNat)
  case atStart => exact ⟨0, Nat.zero_le _, rfl, Lib.hid (ints_nil _ _), Lib.hid (Below.refl _ _)⟩
  case round =>
    obtain ⟨k, hk, rfl, hown, hb⟩ := hrel
    obtain ⟨g0, g1, g2, g3, g4, g5, g6, g7⟩ := (HB.out.of (hb.out.block _ HB.out.lt)).cells
    by_cases hlt : k < f.h.bs.length
    · have HT := Lib.hid (readyTo_succ f.h f.pk f.day k)
      have hlr := readyTo_len f.h f.pk f.day k
      have HFr := Lib.hid (HF.out.below hb.out)
      have H115 := Lib.hid (in_any f.pk (by omega) (k : Int) Ap cp wr HFr.out.p)
      have HDO := Lib.hid (dOK_eq HFO.out f.day hlt)
      have HIN := Lib.hid (inOf_nil (pk := f.pk) (b := (k : Int)))
      have hil : (inOf f.pk (k : Int)).length ≤ 6 := Nat.le_trans (inTo_len f.pk k f.pk.length) hpl
      have HPA := Lib.hid (show PartsOK f.h (inOf f.pk (k : Int)) from inTo_parts (by have := (goodB_parts HFO.out.p).1; omega))
      obtain ⟨ps, hps⟩ : ∃ ps, inOf f.pk (k : Int) = ps := ⟨_, rfl⟩
      rw [hps] at H115 HDO HIN hil HPA
      have H116 := Lib.hid (fun W A c hW (hI : IntsAt W W.heap.size A ps) => daysOf_any L f.h (HOK.ofValid HFO.out.h) ps (by omega) HPA.out A c W hW hI)
      clear hps
      go_upto_region 6 with (go_at_call 145; refine H115.out.mono ?_; rintro e w1 ⟨⟨v1, rfl, hv1⟩, hb1⟩; have B1 := Lib.hid (hb0to hb.out hb1); have B1r := Lib.hid hb1; obtain ⟨A1, c1, rfl, _, _, hI1⟩ := hv1.lay; have HI1 := Lib.hid hI1.at_; clear hb1 hv1 hI1)
      clear g0 g1 g2 g3 g4 g5 g6 g7
      obtain ⟨g0, g1, g2, g3, g4, g5, g6, g7⟩ := (HB.out.of (B1.out.block _ HB.out.lt)).cells
      have y0 := extB_cell g0
      have y1 := extB_cell g1
      have y2 := extB_cell g2
      have y3 := extB_cell g3
      have y5 := extB_cell g5
      by_cases he : ps = []
      · have hd : decide (0 < ps.length) = false := decide_eq_false (by rw [he]; simp)
        have hq : readyTo f.h f.pk f.day (k + 1) = readyTo f.h f.pk f.day k := by
          rw [HT.out, decide_eq_false (HIN.out.1 he)]; simp
        have HQ := Lib.hid hq
        clear hq he
        refine wp_region_ext (by kernel_rfl) (by kernel_rfl) ?_
        repeat (go_big_quiet_step (fail))
        refine wpQuiet_nil ?_
        rintro _ ⟨t1, rfl⟩
        clear y0 y1 y2 y3 y5 g0 g1 g2 g3 g4 g5 g6 g7
        have HB6 := Lib.hid (extB_below w1 t1)
        obtain ⟨W6, hW6⟩ : ∃ W6, extB w1 t1 = W6 := ⟨_, rfl⟩
        rw [hW6] at HB6 ⊢
        clear hW6
        go_wp2_with (fail)
        go_roundw
        case rel => exact ⟨k + 1, by omega, by go_num, Lib.hid (by rw [HQ.out]; exact (hown.out.below_ B1r.out (Nat.le_refl _)).below_ HB6.out (Nat.le_refl _)), Lib.hid (hb0to B1.out HB6.out)⟩
        case measure => simp [intOf]; omega
      · have hd : decide (0 < ps.length) = true := decide_eq_true (List.length_pos_iff.2 he)
        have HM : Hid ((k : Int) ∈ f.pk) := Lib.hid (Classical.not_not.1 (fun h => he (HIN.out.2 h)))
        have HF1 := Lib.hid (HF.out.below B1.out)
        have H116x := Lib.hid (fun z => H116.out (extB w1 z) A1 c1 (HF1.out.below (extB_below w1 z)).h (ints_later HI1.out (extB_below w1 z)))
        clear he
        generalize (caskIn f.h ps).d = dd at H116x HDO
        by_cases hdd : dd ≤ f.day
        · have hd2 : decide (dd ≤ f.day) = true := decide_eq_true hdd
          have HQ := Lib.hid (show readyTo f.h f.pk f.day (k + 1) = readyTo f.h f.pk f.day k ++ [(k : Int)] by rw [HT.out, decide_eq_true HM.out, HDO.out, hd2]; rfl)
          clear hdd
          refine wp_region_ext (by kernel_rfl) (by kernel_rfl) ?_
          repeat (go_big_quiet_step ((go_at_call 146; exact ext_call (H116x.out _))))
          refine wpQuiet_nil ?_
          rintro _ ⟨t1, rfl⟩
          clear y0 y1 y2 y3 y5 g0 g1 g2 g3 g4 g5 g6 g7
          have HB6 := Lib.hid (extB_below w1 t1)
          obtain ⟨W6, hW6⟩ : ∃ W6, extB w1 t1 = W6 := ⟨_, rfl⟩
          rw [hW6] at HB6 ⊢
          clear hW6
          have HOW := Lib.hid ((hown.out.below_ B1r.out (Nat.le_refl _)).below_ HB6.out (Nat.le_refl _))
          have hbz := hb0to B1.out HB6.out
          have hszw := hbz.size
          have HBZ := Lib.hid hbz
          clear hbz
          go_wp2_with (refine wpl_app (by rfl) _ _ (by rfl) W0.heap.size W0.heap.size _ (readyTo f.h f.pk f.day k) (k : Int) (by rfl) (HOW.out.alloc _) ⟨W6.heap.size, 0, none⟩ 1 (by rfl) (by simp [go_sem]) (by omega) (by simp; omega) (Nat.le_refl _) ?_; intro v7 w7 hown7 hb7; have H7 := Lib.hid hown7; have B7 := Lib.hid hb7; clear hown7 hb7)
          go_roundw
          case rel => exact ⟨k + 1, by omega, by go_num, Lib.hid (by rw [HQ.out]; exact H7.out), Lib.hid ((hb0to B1.out HB6.out).trans (((al_below W6 _).mono (hb0to B1.out HB6.out).size).trans B7.out))⟩
          case measure => simp [intOf]; omega
        · have hd2 : decide (dd ≤ f.day) = false := decide_eq_false hdd
          have HQ := Lib.hid (show readyTo f.h f.pk f.day (k + 1) = readyTo f.h f.pk f.day k by rw [HT.out, decide_eq_true HM.out, HDO.out, hd2]; simp)
          clear hdd
          refine wp_region_ext (by kernel_rfl) (by kernel_rfl) ?_
          repeat (go_big_quiet_step ((go_at_call 146; exact ext_call (H116x.out _))))
          refine wpQuiet_nil ?_
          rintro _ ⟨t1, rfl⟩
          clear y0 y1 y2 y3 y5 g0 g1 g2 g3 g4 g5 g6 g7
          have HB6 := Lib.hid (extB_below w1 t1)
          obtain ⟨W6, hW6⟩ : ∃ W6, extB w1 t1 = W6 := ⟨_, rfl⟩
          rw [hW6] at HB6 ⊢
          clear hW6
          go_wp2_with (fail)
          go_roundw
          case rel => exact ⟨k + 1, by omega, by go_num, Lib.hid (by rw [HQ.out]; exact (hown.out.below_ B1r.out (Nat.le_refl _)).below_ HB6.out (Nat.le_refl _)), Lib.hid (hb0to B1.out HB6.out)⟩
          case measure => simp [intOf]; omega
    · obtain rfl : k = f.h.bs.length := by omega
      go_wp2_with (fail)
      go_ret
      exact ⟨⟨_, rfl, hown.out.mono HBW.out.size⟩, hb0to HBW.out hb.out⟩
open Go.RowKit

/-! The specification's apart 117, isSale 93, IsSale 56, Brings 57. -/
abbrev bidE (x : Bid) (A : Option Addr) (c : Nat) : Value := .agg #[.int .i64 x.who, .slice A x.bar.length c, .int .i64 x.pay]
theorem apartB_no {x y : Bid} (h : x.who = y.who) : apartB x y = false := by unfold apartB; simp [h]
theorem apartB_in {x y : Bid} {n : Int} (h : n ∈ x.bar) (k : n ∈ y.bar) : apartB x y = false := by
  rw [← Bool.not_eq_true]
  exact fun e => (apart_iff.1 e).2 n h k
set_option maxRecDepth 100000 in
set_option maxHeartbeats 4000000 in
theorem apart_any (x y : Bid) (A B : Option Addr) (c d : Nat) (hx : x.bar.length ≤ 1000) (hy : y.bar.length ≤ 1000) (w : World) (hI : IntsAt w w.heap.size A x.bar) (hJ : IntsAt w w.heap.size B y.bar) :
    Calls Try.prog 144 #[bidE x A c, bidE y B d] w fun e w' => e = .returned (.bool (apartB x y)) ∧ Below w.heap.size w w' := by
  have h1 := heap_keep (o' := .cells #[.int .i64 y.who, .slice B y.bar.length d, .int .i64 y.pay] 68) (heap_new1 w (.cells #[.int .i64 x.who, .slice A x.bar.length c, .int .i64 x.pay] 68))
  have h2 := heap_new2 w (.cells #[.int .i64 x.who, .slice A x.bar.length c, .int .i64 x.pay] 68) (.cells #[.int .i64 y.who, .slice B y.bar.length d, .int .i64 y.pay] 68)
  have hb2 := hb0to (al_below w (.cells #[.int .i64 x.who, .slice A x.bar.length c, .int .i64 x.pay] 68)) (al_below _ (.cells #[.int .i64 y.who, .slice B y.bar.length d, .int .i64 y.pay] 68))
  obtain ⟨W2, hW2⟩ : ∃ W2, (w.alloc (.cells #[.int .i64 x.who, .slice A x.bar.length c, .int .i64 x.pay] 68)).alloc (.cells #[.int .i64 y.who, .slice B y.bar.length d, .int .i64 y.pay] 68) = W2 := ⟨_, rfl⟩
  rw [hW2] at h1 h2 hb2
  have H1 := Lib.hid h1
  have H2 := Lib.hid h2
  have HB2 := Lib.hid hb2
  have HW2 := Lib.hid hW2
  have HI := Lib.hid (ints_later hI hb2)
  have HJ := Lib.hid (ints_later hJ hb2)
  have a0 := cell_of_heap (o := 0) h1 rfl
  have a1 := cell_of_heap (o := 1) h1 rfl
  have b0 := cell_of_heap (o := 0) h2 rfl
  have b1 := cell_of_heap (o := 1) h2 rfl
  clear h1 h2 hb2 hW2 hI hJ
  by_cases hw : x.who = y.who
  · have hd : (x.who == y.who) = true := by simp [hw]
    have HQ := Lib.hid (apartB_no hw)
    clear hw
    go_enter Try.func144, Try.ntmps144
    go_upto_region 1 with (fail)
    have e := HW2.out
    rw [e]
    clear e
    go_wp2_with (fail)
    go_ret
    exact ⟨by rw [HQ.out]; rfl, HB2.out⟩
  · have hd : (x.who == y.who) = false := by simp [hw]
    have HWH := Lib.hid hw
    clear hw
    go_enter Try.func144, Try.ntmps144
    go_upto_region 1 with (fail)
    have e := HW2.out
    rw [e]
    clear e
    go_wp2_with (fail)
    clear a0 a1 b0 b1
    go_loopw [5] (fun i wr => ∃ k : Nat, k ≤ x.bar.length ∧ i = .int .i64 k ∧ Hid (∀ j n, j < k → x.bar[j]? = some n → n ∉ y.bar) ∧ Hid (Below W2.heap.size W2 wr)) (fun i _ => x.bar.length - (intOf i).toNat)
    case atStart => exact ⟨0, Nat.zero_le _, rfl, Lib.hid (fun j n hj => by omega), Lib.hid (Below.refl _ _)⟩
    case round =>
      obtain ⟨k, hk, rfl, hno, hb⟩ := hrel
      have a1 := below_cell hb.out (cell_of_heap (o := 1) H1.out rfl)
      have b1 := below_cell hb.out (cell_of_heap (o := 1) H2.out rfl)
      by_cases hlt : k < x.bar.length
      · obtain ⟨n, hn⟩ : ∃ n, x.bar[k]? = some n := ⟨_, List.getElem?_eq_getElem hlt⟩
        obtain ⟨b', o', eA, b1lt, d1⟩ := HI.out.at_ hn
        have d2 := below_cell hb.out d1
        subst eA
        have ya := extB_cell a1
        have yb := extB_cell b1
        have yd := extB_cell d2
        have H24 := Lib.hid (fun z => rIn_any y.bar hy n B d (extB wr z) (ints_later (ints_later HJ.out hb.out) (extB_below wr z)))
        have HN := Lib.hid hn
        clear hn d1
        cases hin : decide (n ∈ y.bar)
        · rw [hin] at H24
          have HNI := Lib.hid (of_decide_eq_false hin)
          clear hin
          go_upto_region 6 with (fail)
          refine wp_region_ext (by kernel_rfl) (by kernel_rfl) ?_
          repeat (go_big_quiet_step ((go_at_call 77; exact ext_call (H24.out _))))
          refine wpQuiet_nil ?_
          rintro _ ⟨t1, rfl⟩
          clear ya yb yd a1 b1 d2
          have HB6 := Lib.hid (extB_below wr t1)
          obtain ⟨W6, hW6⟩ : ∃ W6, extB wr t1 = W6 := ⟨_, rfl⟩
          rw [hW6] at HB6 ⊢
          clear hW6
          go_wp2_with (fail)
          go_roundw
          case rel => exact ⟨k + 1, by omega, by go_num, Lib.hid (fun j m hj hm => by
            by_cases e : j = k
            · subst e; have := HN.out.symm.trans hm; cases this; exact HNI.out
            · exact hno.out j m (by omega) hm), Lib.hid (hb0to hb.out HB6.out)⟩
          case measure => simp [intOf]; omega
        · rw [hin] at H24
          have HQ := Lib.hid (apartB_in (List.mem_of_getElem? HN.out) (of_decide_eq_true hin))
          clear hin
          go_upto_region 6 with (fail)
          refine wp_region_ext (by kernel_rfl) (by kernel_rfl) ?_
          repeat (go_big_quiet_step ((go_at_call 77; exact ext_call (H24.out _))))
          refine wpQuiet_nil ?_
          rintro _ ⟨t1, rfl⟩
          clear ya yb yd a1 b1 d2
          have HB6 := Lib.hid (extB_below wr t1)
          obtain ⟨W6, hW6⟩ : ∃ W6, extB wr t1 = W6 := ⟨_, rfl⟩
          rw [hW6] at HB6 ⊢
          clear hW6
          go_wp2_with (fail)
          go_ret
          exact ⟨by rw [HQ.out]; rfl, hb0to HB2.out (hb0to hb.out HB6.out)⟩
      · obtain rfl : k = x.bar.length := by omega
        have HQ := Lib.hid (show apartB x y = true from apart_iff.2 ⟨HWH.out, fun n hn => by
          obtain ⟨j, hj⟩ := List.getElem?_of_mem hn
          exact hno.out j n (List.getElem?_eq_some_iff.1 hj).1 hj⟩)
        go_wp2_with (fail)
        go_ret
        exact ⟨by rw [HQ.out]; rfl, hb0to HB2.out hb.out⟩
end Go.Proofs.Ytmbcpmnigggbaaa
namespace Go.Proofs.Ytmbcpmnigggbaaa
open Go.RowKit

/-! Good 50. -/
theorem bits_or : ∀ N, N ≤ 8 → ∀ j, j < N → ∀ m, m < 2 ^ j → bitsL N (m ||| 2 ^ j) = bitsL N m ++ [j] ∧ m ||| 2 ^ j < 2 ^ (j + 1) := by decide +kernel
def BoolEnd (r : Bool × Int) (e : Ending) : Prop := e = .returned (.tuple #[.bool r.1, .int .i64 r.2])
theorem BoolEnd.mk {r : Bool × Int} {x : Bool} {y : Int} (h : r = (x, y)) : BoolEnd r (.returned (.tuple #[.bool x, .int .i64 y])) := by unfold BoolEnd; rw [h]
/-- What Good knows of the first numbers of a list: their bits. -/
structure GoodTo (q : List Bid) (l : List Int) (k m b : Nat) : Prop where
  lt : m < 2 ^ b
  le : b ≤ q.length
  bits : bitsL q.length m = (l.take k).map Int.toNat
  last : 0 < k → (b : Int) = l.getD (k - 1) 0 + 1
  zero : k = 0 → b = 0
theorem GoodTo.next {q : List Bid} {l : List Int} {k m b n : Nat} (h : GoodTo q l k m b) (hq : q.length ≤ 8) (hx : l[k]? = some (n : Int)) (hn : n < q.length) (hb : b ≤ n) : GoodTo q l (k + 1) (m ||| 2 ^ n) (n + 1) := by
  obtain ⟨h1, h2⟩ := bits_or q.length hq n hn m (Nat.lt_of_lt_of_le h.lt (Nat.pow_le_pow_right (by omega) hb))
  refine ⟨h2, hn, ?_, fun _ => ?_, fun h => by omega⟩
  · rw [h1, h.bits, (take_snoc_next hx).symm, List.map_append]; simp
  · rw [Nat.add_sub_cancel, List.getD, hx]; simp
end Go.Proofs.Ytmbcpmnigggbaaa
