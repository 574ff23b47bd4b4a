import Derived.Test.YtmconopnplgcfaaPN
namespace Go.Proofs.Ytmconopnplgcfaa
open Go.RowKit

/-! SalesNeed. -/
set_option maxRecDepth 100000 in
set_option maxHeartbeats 4000000 in
theorem need_law (F : FL) (f : Fair) (a : Int) (w : World) (hok : FLOK F f) (hF : FairAt w w.heap.size F f) : Calls Try.prog 8 #[F.enc f, .int .i64 a] w fun e w' => e = .returned (.bool true) ∧ Below w.heap.size w w' := by
  have hbw := al_below w (.cells #[.slice F.L.Ak f.h.ks.length F.L.ck, .int .i64 f.h.fl, .slice F.L.Ap f.h.ps.length F.L.cp, .slice F.L.Ab f.h.bs.length F.L.cb, .slice F.Ap f.pk.length F.cp, .int .i64 f.day, .int .i64 f.nb, .slice F.Aq f.q.length F.cq] 29)
  have HB := Lib.hid (FBox.new w F f)
  obtain ⟨c0, c1, c2, c3, c4, c5, c6, c7⟩ := (FBox.new w F f).cells
  obtain ⟨W0, hW0⟩ : ∃ W0, w.alloc (.cells #[.slice F.L.Ak f.h.ks.length F.L.ck, .int .i64 f.h.fl, .slice F.L.Ap f.h.ps.length F.L.cp, .slice F.L.Ab f.h.bs.length F.L.cb, .slice F.Ap f.pk.length F.cp, .int .i64 f.day, .int .i64 f.nb, .slice F.Aq f.q.length F.cq] 29) = W0 := ⟨_, rfl⟩
  rw [hW0] at hbw HB c0 c1 c2 c3 c4 c5 c6 c7
  have HBW := Lib.hid hbw
  have HW0 := Lib.hid hW0
  have HF := Lib.hid (hF.below hbw)
  clear hbw hW0 hF
  have M := Lib.hid (FIn.mk HF.out HB.out)
  have B := Lib.hid (Below.refl W0.heap.size W0)
  have H16 := Lib.hid (fun W hW => readyF_any F f W hW)
  cases hr : readyB9 f
  · rw [hr] at H16
    clear hok hr
    obtain ⟨L, Ap, cp, Aq, cq⟩ := F
    go_enter Try.func8, Try.ntmps8
    go_upto_region 1 with (fail)
    have e := HW0.out
    rw [e]
    clear e

    go_wp2_with (first
      | (go_at_call 16; refine (H16.out _ M.out.H).mono ?_; rintro e wn ⟨rfl, hb⟩; have MN := Lib.hid (M.out.next hb); have BN := Lib.hid (hb0to B.out hb); have M := MN; have B := BN; clear MN BN; (first | (have IN := Lib.hid (ints_later I.out hb); have I := IN; clear IN) | skip); obtain ⟨r0, r1, r2, r3, r4, r5, r6, r7⟩ := M.out.x.cells; clear hb)
      | (go_at_call 19; refine (works_any _).mono ?_; rintro e wn ⟨rfl, hb⟩; have MN := Lib.hid (M.out.next hb); have BN := Lib.hid (hb0to B.out hb); have M := MN; have B := BN; clear MN BN; (first | (have IN := Lib.hid (ints_later I.out hb); have I := IN; clear IN) | skip); obtain ⟨r0, r1, r2, r3, r4, r5, r6, r7⟩ := M.out.x.cells; clear hb))
    go_ret
    exact ⟨rfl, hb0to HBW.out B.out⟩
  · rw [hr] at H16
    obtain ⟨hh, hv⟩ := readyB9_iff.1 hr
    have hf := FOK.of hv
    have hn := hugeF_fn hh
    have H35 := Lib.hid (fun W => rIsBid_any F f a hn.q W)
    clear hr
    cases hb1 : isBid f a
    · rw [hb1] at H35
      clear hok hb1 hf hn hv hh
      obtain ⟨L, Ap, cp, Aq, cq⟩ := F
      go_enter Try.func8, Try.ntmps8
      go_upto_region 1 with (fail)
      have e := HW0.out
      rw [e]
      clear e

      go_wp2_with (first
        | (go_at_call 16; refine (H16.out _ M.out.H).mono ?_; rintro e wn ⟨rfl, hb⟩; have MN := Lib.hid (M.out.next hb); have BN := Lib.hid (hb0to B.out hb); have M := MN; have B := BN; clear MN BN; (first | (have IN := Lib.hid (ints_later I.out hb); have I := IN; clear IN) | skip); obtain ⟨r0, r1, r2, r3, r4, r5, r6, r7⟩ := M.out.x.cells; clear hb)
        | (go_at_call 35; refine (H35.out _).mono ?_; rintro e wn ⟨rfl, hb⟩; have MN := Lib.hid (M.out.next hb); have BN := Lib.hid (hb0to B.out hb); have M := MN; have B := BN; clear MN BN; (first | (have IN := Lib.hid (ints_later I.out hb); have I := IN; clear IN) | skip); obtain ⟨r0, r1, r2, r3, r4, r5, r6, r7⟩ := M.out.x.cells; clear hb)
        | (go_at_call 19; refine (works_any _).mono ?_; rintro e wn ⟨rfl, hb⟩; have MN := Lib.hid (M.out.next hb); have BN := Lib.hid (hb0to B.out hb); have M := MN; have B := BN; clear MN BN; (first | (have IN := Lib.hid (ints_later I.out hb); have I := IN; clear IN) | skip); obtain ⟨r0, r1, r2, r3, r4, r5, r6, r7⟩ := M.out.x.cells; clear hb))
      go_ret
      exact ⟨rfl, hb0to HBW.out B.out⟩
    · rw [hb1] at H35
      have hab := inR_true.1 hb1
      obtain ⟨i, rfl⟩ := Int.eq_ofNat_of_zero_le hab.1
      have hil : i < f.q.length := by omega
      obtain ⟨x, hx⟩ : ∃ x, f.q[i]? = some x := ⟨_, List.getElem?_eq_getElem hil⟩
      have hxp := hf.pay x (List.mem_of_getElem? hx)
      have H37 := Lib.hid (fun W hW => Need_any F f hn (i : Int) W hW)
      have H36 := Lib.hid (fun W hW => Won_any F f hn (i : Int) W hW)
      rw [need_ret hv hil] at H37
      rw [won_ret hv hil] at H36
      have HOF := Lib.hid (fun (p : Int) W hW => offered_any F f hn hok i p hil W hW)
      have hgl : ∀ p : Int, i < (offerF f i p).q.length := fun p => by
        show i < (offerQ f.q i p).length
        rw [offer_eq hx, List.length_set]; exact hil
      have HWG := Lib.hid (fun (p : Int) (h0 : 0 ≤ p) (h9 : p ≤ 99) (G : FL) (W : World) (hW : FairAt W W.heap.size G (offerF f i p)) => (by
        have h := Won_any G (offerF f i p) (offer_fn hx hn p) (i : Int) W hW
        rw [won_ret (offer_valid hx hv ⟨h0, h9⟩) (hgl p)] at h
        exact h : Calls Try.prog 36 #[G.enc (offerF f i p), .int .i64 (i : Int)] W fun e w' => NumEnd (wonN (withV (offerF f i p).q (rdF (offerF f i p)) i) (outV (offerF f i p).q (rdF (offerF f i p)) i), 0) e ∧ Below W.heap.size W w'))
      have HWN := Lib.hid (fun (p : Int) (h0 : 0 ≤ p) (h9 : p ≤ 99) => need_won hv hx (p := p) ⟨h0, h9⟩)
      have hown := need_own hv hx
      have hnb := needQ_bd f i
      have hkb := wonN_in (withV f.q (rdF f) i) (outV f.q (rdF f) i)
      generalize wonN (withV f.q (rdF f) i) (outV f.q (rdF f) i) = kw at H36 hown hkb
      generalize needQ f i = n at H37 hown hnb HWN
      have hdk : inR kw 1 3 = true := inR_true.2 hkb
      have hkn : (kw = 2 ∧ decide (n ≤ x.pay) = false) ∨ ((kw != (2 : Int)) = true ∧ decide (n ≤ x.pay) = true) := by
        by_cases h : x.pay < n
        · exact .inl ⟨hown.2 h, decide_eq_false (by omega)⟩
        · exact .inr ⟨bne_iff_ne.2 fun e => h (hown.1 e), decide_eq_true (by omega)⟩
      have hql := hf.ql
      clear hok hb1 hf hn hv hh hown hgl hkb hab
      obtain ⟨L, Ap, cp, Aq, cq⟩ := F
      obtain ⟨bk, ok, A', c', rfl, hbk, x1, x2, x3, hA', hXI⟩ := HF.out.q.at_ hx
      have X3 := Lib.hid x3
      clear x1 x2 x3 hA' hXI hx
      rcases (show n = 100 ∨ n = 99 ∨ n = 0 ∨ n = 1 ∨ (1 < n ∧ n < 99) by omega) with rfl | rfl | rfl | rfl | ⟨hn1, hn2⟩
      · have H37 := Lib.hid (fun W hW => H37.out W hW)
        rw [if_pos rfl] at H37
        rcases hkn with ⟨rfl, hd3⟩ | ⟨hd4, hd3⟩
        · as_aux_lemma =>
            go_enter Try.func8, Try.ntmps8
            go_upto_region 1 with (fail)
            have e := HW0.out
            rw [e]
            clear e
            go_wp2_with (first
              | (go_at_call 16; refine (H16.out _ M.out.H).mono ?_; rintro e wn ⟨rfl, hb⟩; have MN := Lib.hid (M.out.next hb); have BN := Lib.hid (hb0to B.out hb); have M := MN; have B := BN; clear MN BN; (first | (have IN := Lib.hid (ints_later I.out hb); have I := IN; clear IN) | skip); obtain ⟨r0, r1, r2, r3, r4, r5, r6, r7⟩ := M.out.x.cells; clear hb)
              | (go_at_call 35; refine (H35.out _).mono ?_; rintro e wn ⟨rfl, hb⟩; have MN := Lib.hid (M.out.next hb); have BN := Lib.hid (hb0to B.out hb); have M := MN; have B := BN; clear MN BN; (first | (have IN := Lib.hid (ints_later I.out hb); have I := IN; clear IN) | skip); obtain ⟨r0, r1, r2, r3, r4, r5, r6, r7⟩ := M.out.x.cells; clear hb)
              | (go_at_call 37; refine (H37.out _ M.out.H).mono ?_; rintro e wn ⟨rfl, hb⟩; have MN := Lib.hid (M.out.next hb); have BN := Lib.hid (hb0to B.out hb); have M := MN; have B := BN; clear MN BN; (first | (have IN := Lib.hid (ints_later I.out hb); have I := IN; clear IN) | skip); obtain ⟨r0, r1, r2, r3, r4, r5, r6, r7⟩ := M.out.x.cells; clear H37; clear hb)
              | (go_at_call 36; refine (H36.out _ M.out.H).mono ?_; rintro e wn ⟨rfl, hb⟩; have MN := Lib.hid (M.out.next hb); have BN := Lib.hid (hb0to B.out hb); have M := MN; have B := BN; clear MN BN; (first | (have IN := Lib.hid (ints_later I.out hb); have I := IN; clear IN) | skip); obtain ⟨r0, r1, r2, r3, r4, r5, r6, r7⟩ := M.out.x.cells; have e3 := below_cell B.out X3.out; clear H36; clear hb)
              | (go_at_call 18; refine (within1_any _ _ _ _).mono ?_; rintro e wn ⟨rfl, rfl⟩))
            clear H16 H35 e3 r0 r1 r2 r3 r4 r5 r6 r7
            go_loopw [9] (fun i wr => ∃ p : Int, i = .int .i64 p ∧ 0 ≤ p ∧ p ≤ 101 ∧ Hid (FIn wr w.heap.size ⟨L, Ap, cp, some ⟨bk, ok, none⟩, cq⟩ f) ∧ Hid (Below W0.heap.size W0 wr)) (fun i _ => 200 - (intOf i).toNat)
            case atStart => exact ⟨_, rfl, by omega, by omega, M, B⟩
            case round =>
              obtain ⟨p, rfl, hp0, hp1, M, B⟩ := hrel
              obtain ⟨r0, r1, r2, r3, r4, r5, r6, r7⟩ := M.out.x.cells
              by_cases hlt : p ≤ 99
              · have hkd : decide (p ≤ 99) = true := decide_eq_true hlt
                have hp9 : p ≤ 99 := by omega
                have H22 := Lib.hid (fun W hW => HOF.out p W hW)
                have H36g := Lib.hid (fun G W hW => HWG.out p hp0 hp9 G W hW)
                have hmn := HWN.out p hp0 hp9
                generalize wonN (withV (offerF f i p).q (rdF (offerF f i p)) i) (outV (offerF f i p).q (rdF (offerF f i p)) i) = m at H36g hmn
                by_cases hpn : p < 100
                · obtain rfl : m = 2 := hmn.2 hpn
                  have hd1 : decide (p < 100) = true := decide_eq_true hpn
                  clear hmn hlt
                  go_wp2_with (first
                    | (go_at_call 22; refine (H22.out wr M.out.H).mono ?_; rintro e w5 ⟨⟨⟨⟨k1, k2, k3, k4, k5, k6⟩, k7, k8, k9, k10⟩, rfl, hcf, hq⟩, hb⟩; have HG := Lib.hid (CopRet.fair hcf hq).1; have B5 := Lib.hid (hb0to B.out hb); have M5 := Lib.hid (M.out.next hb); clear hcf hq hb)
                    | (go_at_call 36; refine (H36g.out _ w5 HG.out).mono ?_; rintro e w6 ⟨rfl, hb⟩; have B6 := Lib.hid (hb0to B5.out hb); have M6 := Lib.hid (M5.out.next hb); clear hb))
                  go_roundw
                  case rel => exact ⟨p + 1, by go_num, by omega, by omega, M6, B6⟩
                  case measure => simp [intOf]; omega
                · have hd1 : decide (p < 100) = false := decide_eq_false hpn
                  have hd2 : (m == (2 : Int)) = false := beq_eq_false_iff_ne.2 (fun h => hpn (hmn.1 h))
                  clear hmn hlt
                  go_wp2_with (first
                    | (go_at_call 22; refine (H22.out wr M.out.H).mono ?_; rintro e w5 ⟨⟨⟨⟨k1, k2, k3, k4, k5, k6⟩, k7, k8, k9, k10⟩, rfl, hcf, hq⟩, hb⟩; have HG := Lib.hid (CopRet.fair hcf hq).1; have B5 := Lib.hid (hb0to B.out hb); have M5 := Lib.hid (M.out.next hb); clear hcf hq hb)
                    | (go_at_call 36; refine (H36g.out _ w5 HG.out).mono ?_; rintro e w6 ⟨rfl, hb⟩; have B6 := Lib.hid (hb0to B5.out hb); have M6 := Lib.hid (M5.out.next hb); clear hb))
                  go_roundw
                  case rel => exact ⟨p + 1, by go_num, by omega, by omega, M6, B6⟩
                  case measure => simp [intOf]; omega
              · have hkd : decide (p ≤ 99) = false := decide_eq_false hlt
                clear hlt
                go_wp2_with (go_at_call 19; refine (works_any _).mono ?_; rintro e wn ⟨rfl, hb⟩; have MN := Lib.hid (M.out.next hb); have BN := Lib.hid (hb0to B.out hb); have M := MN; have B := BN; clear MN BN; (first | (have IN := Lib.hid (ints_later I.out hb); have I := IN; clear IN) | skip); obtain ⟨r0, r1, r2, r3, r4, r5, r6, r7⟩ := M.out.x.cells; clear hb)
                go_ret
                exact ⟨rfl, hb0to HBW.out B.out⟩

        · as_aux_lemma =>
            go_enter Try.func8, Try.ntmps8
            go_upto_region 1 with (fail)
            have e := HW0.out
            rw [e]
            clear e
            go_wp2_with (first
              | (go_at_call 16; refine (H16.out _ M.out.H).mono ?_; rintro e wn ⟨rfl, hb⟩; have MN := Lib.hid (M.out.next hb); have BN := Lib.hid (hb0to B.out hb); have M := MN; have B := BN; clear MN BN; (first | (have IN := Lib.hid (ints_later I.out hb); have I := IN; clear IN) | skip); obtain ⟨r0, r1, r2, r3, r4, r5, r6, r7⟩ := M.out.x.cells; clear hb)
              | (go_at_call 35; refine (H35.out _).mono ?_; rintro e wn ⟨rfl, hb⟩; have MN := Lib.hid (M.out.next hb); have BN := Lib.hid (hb0to B.out hb); have M := MN; have B := BN; clear MN BN; (first | (have IN := Lib.hid (ints_later I.out hb); have I := IN; clear IN) | skip); obtain ⟨r0, r1, r2, r3, r4, r5, r6, r7⟩ := M.out.x.cells; clear hb)
              | (go_at_call 37; refine (H37.out _ M.out.H).mono ?_; rintro e wn ⟨rfl, hb⟩; have MN := Lib.hid (M.out.next hb); have BN := Lib.hid (hb0to B.out hb); have M := MN; have B := BN; clear MN BN; (first | (have IN := Lib.hid (ints_later I.out hb); have I := IN; clear IN) | skip); obtain ⟨r0, r1, r2, r3, r4, r5, r6, r7⟩ := M.out.x.cells; clear H37; clear hb)
              | (go_at_call 36; refine (H36.out _ M.out.H).mono ?_; rintro e wn ⟨rfl, hb⟩; have MN := Lib.hid (M.out.next hb); have BN := Lib.hid (hb0to B.out hb); have M := MN; have B := BN; clear MN BN; (first | (have IN := Lib.hid (ints_later I.out hb); have I := IN; clear IN) | skip); obtain ⟨r0, r1, r2, r3, r4, r5, r6, r7⟩ := M.out.x.cells; have e3 := below_cell B.out X3.out; clear H36; clear hb)
              | (go_at_call 18; refine (within1_any _ _ _ _).mono ?_; rintro e wn ⟨rfl, rfl⟩))
            clear H16 H35 e3 r0 r1 r2 r3 r4 r5 r6 r7
            go_loopw [9] (fun i wr => ∃ p : Int, i = .int .i64 p ∧ 0 ≤ p ∧ p ≤ 101 ∧ Hid (FIn wr w.heap.size ⟨L, Ap, cp, some ⟨bk, ok, none⟩, cq⟩ f) ∧ Hid (Below W0.heap.size W0 wr)) (fun i _ => 200 - (intOf i).toNat)
            case atStart => exact ⟨_, rfl, by omega, by omega, M, B⟩
            case round =>
              obtain ⟨p, rfl, hp0, hp1, M, B⟩ := hrel
              obtain ⟨r0, r1, r2, r3, r4, r5, r6, r7⟩ := M.out.x.cells
              by_cases hlt : p ≤ 99
              · have hkd : decide (p ≤ 99) = true := decide_eq_true hlt
                have hp9 : p ≤ 99 := by omega
                have H22 := Lib.hid (fun W hW => HOF.out p W hW)
                have H36g := Lib.hid (fun G W hW => HWG.out p hp0 hp9 G W hW)
                have hmn := HWN.out p hp0 hp9
                generalize wonN (withV (offerF f i p).q (rdF (offerF f i p)) i) (outV (offerF f i p).q (rdF (offerF f i p)) i) = m at H36g hmn
                by_cases hpn : p < 100
                · obtain rfl : m = 2 := hmn.2 hpn
                  have hd1 : decide (p < 100) = true := decide_eq_true hpn
                  clear hmn hlt
                  go_wp2_with (first
                    | (go_at_call 22; refine (H22.out wr M.out.H).mono ?_; rintro e w5 ⟨⟨⟨⟨k1, k2, k3, k4, k5, k6⟩, k7, k8, k9, k10⟩, rfl, hcf, hq⟩, hb⟩; have HG := Lib.hid (CopRet.fair hcf hq).1; have B5 := Lib.hid (hb0to B.out hb); have M5 := Lib.hid (M.out.next hb); clear hcf hq hb)
                    | (go_at_call 36; refine (H36g.out _ w5 HG.out).mono ?_; rintro e w6 ⟨rfl, hb⟩; have B6 := Lib.hid (hb0to B5.out hb); have M6 := Lib.hid (M5.out.next hb); clear hb))
                  go_roundw
                  case rel => exact ⟨p + 1, by go_num, by omega, by omega, M6, B6⟩
                  case measure => simp [intOf]; omega
                · have hd1 : decide (p < 100) = false := decide_eq_false hpn
                  have hd2 : (m == (2 : Int)) = false := beq_eq_false_iff_ne.2 (fun h => hpn (hmn.1 h))
                  clear hmn hlt
                  go_wp2_with (first
                    | (go_at_call 22; refine (H22.out wr M.out.H).mono ?_; rintro e w5 ⟨⟨⟨⟨k1, k2, k3, k4, k5, k6⟩, k7, k8, k9, k10⟩, rfl, hcf, hq⟩, hb⟩; have HG := Lib.hid (CopRet.fair hcf hq).1; have B5 := Lib.hid (hb0to B.out hb); have M5 := Lib.hid (M.out.next hb); clear hcf hq hb)
                    | (go_at_call 36; refine (H36g.out _ w5 HG.out).mono ?_; rintro e w6 ⟨rfl, hb⟩; have B6 := Lib.hid (hb0to B5.out hb); have M6 := Lib.hid (M5.out.next hb); clear hb))
                  go_roundw
                  case rel => exact ⟨p + 1, by go_num, by omega, by omega, M6, B6⟩
                  case measure => simp [intOf]; omega
              · have hkd : decide (p ≤ 99) = false := decide_eq_false hlt
                clear hlt
                go_wp2_with (go_at_call 19; refine (works_any _).mono ?_; rintro e wn ⟨rfl, hb⟩; have MN := Lib.hid (M.out.next hb); have BN := Lib.hid (hb0to B.out hb); have M := MN; have B := BN; clear MN BN; (first | (have IN := Lib.hid (ints_later I.out hb); have I := IN; clear IN) | skip); obtain ⟨r0, r1, r2, r3, r4, r5, r6, r7⟩ := M.out.x.cells; clear hb)
                go_ret
                exact ⟨rfl, hb0to HBW.out B.out⟩

      · have H37 := Lib.hid (fun W hW => H37.out W hW)
        rw [if_neg (by decide)] at H37
        rcases hkn with ⟨rfl, hd3⟩ | ⟨hd4, hd3⟩
        · as_aux_lemma =>
            go_enter Try.func8, Try.ntmps8
            go_upto_region 1 with (fail)
            have e := HW0.out
            rw [e]
            clear e
            go_wp2_with (first
              | (go_at_call 16; refine (H16.out _ M.out.H).mono ?_; rintro e wn ⟨rfl, hb⟩; have MN := Lib.hid (M.out.next hb); have BN := Lib.hid (hb0to B.out hb); have M := MN; have B := BN; clear MN BN; (first | (have IN := Lib.hid (ints_later I.out hb); have I := IN; clear IN) | skip); obtain ⟨r0, r1, r2, r3, r4, r5, r6, r7⟩ := M.out.x.cells; clear hb)
              | (go_at_call 35; refine (H35.out _).mono ?_; rintro e wn ⟨rfl, hb⟩; have MN := Lib.hid (M.out.next hb); have BN := Lib.hid (hb0to B.out hb); have M := MN; have B := BN; clear MN BN; (first | (have IN := Lib.hid (ints_later I.out hb); have I := IN; clear IN) | skip); obtain ⟨r0, r1, r2, r3, r4, r5, r6, r7⟩ := M.out.x.cells; clear hb)
              | (go_at_call 37; refine (H37.out _ M.out.H).mono ?_; rintro e wn ⟨rfl, hb⟩; have MN := Lib.hid (M.out.next hb); have BN := Lib.hid (hb0to B.out hb); have M := MN; have B := BN; clear MN BN; (first | (have IN := Lib.hid (ints_later I.out hb); have I := IN; clear IN) | skip); obtain ⟨r0, r1, r2, r3, r4, r5, r6, r7⟩ := M.out.x.cells; clear H37; clear hb)
              | (go_at_call 36; refine (H36.out _ M.out.H).mono ?_; rintro e wn ⟨rfl, hb⟩; have MN := Lib.hid (M.out.next hb); have BN := Lib.hid (hb0to B.out hb); have M := MN; have B := BN; clear MN BN; (first | (have IN := Lib.hid (ints_later I.out hb); have I := IN; clear IN) | skip); obtain ⟨r0, r1, r2, r3, r4, r5, r6, r7⟩ := M.out.x.cells; have e3 := below_cell B.out X3.out; clear H36; clear hb)
              | (go_at_call 18; refine (within1_any _ _ _ _).mono ?_; rintro e wn ⟨rfl, rfl⟩))
            clear H16 H35 e3 r0 r1 r2 r3 r4 r5 r6 r7
            go_loopw [9] (fun i wr => ∃ p : Int, i = .int .i64 p ∧ 0 ≤ p ∧ p ≤ 101 ∧ Hid (FIn wr w.heap.size ⟨L, Ap, cp, some ⟨bk, ok, none⟩, cq⟩ f) ∧ Hid (Below W0.heap.size W0 wr)) (fun i _ => 200 - (intOf i).toNat)
            case atStart => exact ⟨_, rfl, by omega, by omega, M, B⟩
            case round =>
              obtain ⟨p, rfl, hp0, hp1, M, B⟩ := hrel
              obtain ⟨r0, r1, r2, r3, r4, r5, r6, r7⟩ := M.out.x.cells
              by_cases hlt : p ≤ 99
              · have hkd : decide (p ≤ 99) = true := decide_eq_true hlt
                have hp9 : p ≤ 99 := by omega
                have H22 := Lib.hid (fun W hW => HOF.out p W hW)
                have H36g := Lib.hid (fun G W hW => HWG.out p hp0 hp9 G W hW)
                have hmn := HWN.out p hp0 hp9
                generalize wonN (withV (offerF f i p).q (rdF (offerF f i p)) i) (outV (offerF f i p).q (rdF (offerF f i p)) i) = m at H36g hmn
                by_cases hpn : p < 99
                · obtain rfl : m = 2 := hmn.2 hpn
                  have hd1 : decide (p < 99) = true := decide_eq_true hpn
                  clear hmn hlt
                  go_wp2_with (first
                    | (go_at_call 22; refine (H22.out wr M.out.H).mono ?_; rintro e w5 ⟨⟨⟨⟨k1, k2, k3, k4, k5, k6⟩, k7, k8, k9, k10⟩, rfl, hcf, hq⟩, hb⟩; have HG := Lib.hid (CopRet.fair hcf hq).1; have B5 := Lib.hid (hb0to B.out hb); have M5 := Lib.hid (M.out.next hb); clear hcf hq hb)
                    | (go_at_call 36; refine (H36g.out _ w5 HG.out).mono ?_; rintro e w6 ⟨rfl, hb⟩; have B6 := Lib.hid (hb0to B5.out hb); have M6 := Lib.hid (M5.out.next hb); clear hb))
                  go_roundw
                  case rel => exact ⟨p + 1, by go_num, by omega, by omega, M6, B6⟩
                  case measure => simp [intOf]; omega
                · have hd1 : decide (p < 99) = false := decide_eq_false hpn
                  have hd2 : (m == (2 : Int)) = false := beq_eq_false_iff_ne.2 (fun h => hpn (hmn.1 h))
                  clear hmn hlt
                  go_wp2_with (first
                    | (go_at_call 22; refine (H22.out wr M.out.H).mono ?_; rintro e w5 ⟨⟨⟨⟨k1, k2, k3, k4, k5, k6⟩, k7, k8, k9, k10⟩, rfl, hcf, hq⟩, hb⟩; have HG := Lib.hid (CopRet.fair hcf hq).1; have B5 := Lib.hid (hb0to B.out hb); have M5 := Lib.hid (M.out.next hb); clear hcf hq hb)
                    | (go_at_call 36; refine (H36g.out _ w5 HG.out).mono ?_; rintro e w6 ⟨rfl, hb⟩; have B6 := Lib.hid (hb0to B5.out hb); have M6 := Lib.hid (M5.out.next hb); clear hb))
                  go_roundw
                  case rel => exact ⟨p + 1, by go_num, by omega, by omega, M6, B6⟩
                  case measure => simp [intOf]; omega
              · have hkd : decide (p ≤ 99) = false := decide_eq_false hlt
                clear hlt
                go_wp2_with (go_at_call 19; refine (works_any _).mono ?_; rintro e wn ⟨rfl, hb⟩; have MN := Lib.hid (M.out.next hb); have BN := Lib.hid (hb0to B.out hb); have M := MN; have B := BN; clear MN BN; (first | (have IN := Lib.hid (ints_later I.out hb); have I := IN; clear IN) | skip); obtain ⟨r0, r1, r2, r3, r4, r5, r6, r7⟩ := M.out.x.cells; clear hb)
                go_ret
                exact ⟨rfl, hb0to HBW.out B.out⟩

        · as_aux_lemma =>
            go_enter Try.func8, Try.ntmps8
            go_upto_region 1 with (fail)
            have e := HW0.out
            rw [e]
            clear e
            go_wp2_with (first
              | (go_at_call 16; refine (H16.out _ M.out.H).mono ?_; rintro e wn ⟨rfl, hb⟩; have MN := Lib.hid (M.out.next hb); have BN := Lib.hid (hb0to B.out hb); have M := MN; have B := BN; clear MN BN; (first | (have IN := Lib.hid (ints_later I.out hb); have I := IN; clear IN) | skip); obtain ⟨r0, r1, r2, r3, r4, r5, r6, r7⟩ := M.out.x.cells; clear hb)
              | (go_at_call 35; refine (H35.out _).mono ?_; rintro e wn ⟨rfl, hb⟩; have MN := Lib.hid (M.out.next hb); have BN := Lib.hid (hb0to B.out hb); have M := MN; have B := BN; clear MN BN; (first | (have IN := Lib.hid (ints_later I.out hb); have I := IN; clear IN) | skip); obtain ⟨r0, r1, r2, r3, r4, r5, r6, r7⟩ := M.out.x.cells; clear hb)
              | (go_at_call 37; refine (H37.out _ M.out.H).mono ?_; rintro e wn ⟨rfl, hb⟩; have MN := Lib.hid (M.out.next hb); have BN := Lib.hid (hb0to B.out hb); have M := MN; have B := BN; clear MN BN; (first | (have IN := Lib.hid (ints_later I.out hb); have I := IN; clear IN) | skip); obtain ⟨r0, r1, r2, r3, r4, r5, r6, r7⟩ := M.out.x.cells; clear H37; clear hb)
              | (go_at_call 36; refine (H36.out _ M.out.H).mono ?_; rintro e wn ⟨rfl, hb⟩; have MN := Lib.hid (M.out.next hb); have BN := Lib.hid (hb0to B.out hb); have M := MN; have B := BN; clear MN BN; (first | (have IN := Lib.hid (ints_later I.out hb); have I := IN; clear IN) | skip); obtain ⟨r0, r1, r2, r3, r4, r5, r6, r7⟩ := M.out.x.cells; have e3 := below_cell B.out X3.out; clear H36; clear hb)
              | (go_at_call 18; refine (within1_any _ _ _ _).mono ?_; rintro e wn ⟨rfl, rfl⟩))
            clear H16 H35 e3 r0 r1 r2 r3 r4 r5 r6 r7
            go_loopw [9] (fun i wr => ∃ p : Int, i = .int .i64 p ∧ 0 ≤ p ∧ p ≤ 101 ∧ Hid (FIn wr w.heap.size ⟨L, Ap, cp, some ⟨bk, ok, none⟩, cq⟩ f) ∧ Hid (Below W0.heap.size W0 wr)) (fun i _ => 200 - (intOf i).toNat)
            case atStart => exact ⟨_, rfl, by omega, by omega, M, B⟩
            case round =>
              obtain ⟨p, rfl, hp0, hp1, M, B⟩ := hrel
              obtain ⟨r0, r1, r2, r3, r4, r5, r6, r7⟩ := M.out.x.cells
              by_cases hlt : p ≤ 99
              · have hkd : decide (p ≤ 99) = true := decide_eq_true hlt
                have hp9 : p ≤ 99 := by omega
                have H22 := Lib.hid (fun W hW => HOF.out p W hW)
                have H36g := Lib.hid (fun G W hW => HWG.out p hp0 hp9 G W hW)
                have hmn := HWN.out p hp0 hp9
                generalize wonN (withV (offerF f i p).q (rdF (offerF f i p)) i) (outV (offerF f i p).q (rdF (offerF f i p)) i) = m at H36g hmn
                by_cases hpn : p < 99
                · obtain rfl : m = 2 := hmn.2 hpn
                  have hd1 : decide (p < 99) = true := decide_eq_true hpn
                  clear hmn hlt
                  go_wp2_with (first
                    | (go_at_call 22; refine (H22.out wr M.out.H).mono ?_; rintro e w5 ⟨⟨⟨⟨k1, k2, k3, k4, k5, k6⟩, k7, k8, k9, k10⟩, rfl, hcf, hq⟩, hb⟩; have HG := Lib.hid (CopRet.fair hcf hq).1; have B5 := Lib.hid (hb0to B.out hb); have M5 := Lib.hid (M.out.next hb); clear hcf hq hb)
                    | (go_at_call 36; refine (H36g.out _ w5 HG.out).mono ?_; rintro e w6 ⟨rfl, hb⟩; have B6 := Lib.hid (hb0to B5.out hb); have M6 := Lib.hid (M5.out.next hb); clear hb))
                  go_roundw
                  case rel => exact ⟨p + 1, by go_num, by omega, by omega, M6, B6⟩
                  case measure => simp [intOf]; omega
                · have hd1 : decide (p < 99) = false := decide_eq_false hpn
                  have hd2 : (m == (2 : Int)) = false := beq_eq_false_iff_ne.2 (fun h => hpn (hmn.1 h))
                  clear hmn hlt
                  go_wp2_with (first
                    | (go_at_call 22; refine (H22.out wr M.out.H).mono ?_; rintro e w5 ⟨⟨⟨⟨k1, k2, k3, k4, k5, k6⟩, k7, k8, k9, k10⟩, rfl, hcf, hq⟩, hb⟩; have HG := Lib.hid (CopRet.fair hcf hq).1; have B5 := Lib.hid (hb0to B.out hb); have M5 := Lib.hid (M.out.next hb); clear hcf hq hb)
                    | (go_at_call 36; refine (H36g.out _ w5 HG.out).mono ?_; rintro e w6 ⟨rfl, hb⟩; have B6 := Lib.hid (hb0to B5.out hb); have M6 := Lib.hid (M5.out.next hb); clear hb))
                  go_roundw
                  case rel => exact ⟨p + 1, by go_num, by omega, by omega, M6, B6⟩
                  case measure => simp [intOf]; omega
              · have hkd : decide (p ≤ 99) = false := decide_eq_false hlt
                clear hlt
                go_wp2_with (go_at_call 19; refine (works_any _).mono ?_; rintro e wn ⟨rfl, hb⟩; have MN := Lib.hid (M.out.next hb); have BN := Lib.hid (hb0to B.out hb); have M := MN; have B := BN; clear MN BN; (first | (have IN := Lib.hid (ints_later I.out hb); have I := IN; clear IN) | skip); obtain ⟨r0, r1, r2, r3, r4, r5, r6, r7⟩ := M.out.x.cells; clear hb)
                go_ret
                exact ⟨rfl, hb0to HBW.out B.out⟩

      · have H37 := Lib.hid (fun W hW => H37.out W hW)
        rw [if_neg (by decide)] at H37
        rcases hkn with ⟨rfl, hd3⟩ | ⟨hd4, hd3⟩
        · exact absurd hxp.1 (of_decide_eq_false hd3)
        · as_aux_lemma =>
            go_enter Try.func8, Try.ntmps8
            go_upto_region 1 with (fail)
            have e := HW0.out
            rw [e]
            clear e
            go_wp2_with (first
              | (go_at_call 16; refine (H16.out _ M.out.H).mono ?_; rintro e wn ⟨rfl, hb⟩; have MN := Lib.hid (M.out.next hb); have BN := Lib.hid (hb0to B.out hb); have M := MN; have B := BN; clear MN BN; (first | (have IN := Lib.hid (ints_later I.out hb); have I := IN; clear IN) | skip); obtain ⟨r0, r1, r2, r3, r4, r5, r6, r7⟩ := M.out.x.cells; clear hb)
              | (go_at_call 35; refine (H35.out _).mono ?_; rintro e wn ⟨rfl, hb⟩; have MN := Lib.hid (M.out.next hb); have BN := Lib.hid (hb0to B.out hb); have M := MN; have B := BN; clear MN BN; (first | (have IN := Lib.hid (ints_later I.out hb); have I := IN; clear IN) | skip); obtain ⟨r0, r1, r2, r3, r4, r5, r6, r7⟩ := M.out.x.cells; clear hb)
              | (go_at_call 37; refine (H37.out _ M.out.H).mono ?_; rintro e wn ⟨rfl, hb⟩; have MN := Lib.hid (M.out.next hb); have BN := Lib.hid (hb0to B.out hb); have M := MN; have B := BN; clear MN BN; (first | (have IN := Lib.hid (ints_later I.out hb); have I := IN; clear IN) | skip); obtain ⟨r0, r1, r2, r3, r4, r5, r6, r7⟩ := M.out.x.cells; clear H37; clear hb)
              | (go_at_call 36; refine (H36.out _ M.out.H).mono ?_; rintro e wn ⟨rfl, hb⟩; have MN := Lib.hid (M.out.next hb); have BN := Lib.hid (hb0to B.out hb); have M := MN; have B := BN; clear MN BN; (first | (have IN := Lib.hid (ints_later I.out hb); have I := IN; clear IN) | skip); obtain ⟨r0, r1, r2, r3, r4, r5, r6, r7⟩ := M.out.x.cells; have e3 := below_cell B.out X3.out; clear H36; clear hb)
              | (go_at_call 18; refine (within1_any _ _ _ _).mono ?_; rintro e wn ⟨rfl, rfl⟩))
            clear H16 H35 e3 r0 r1 r2 r3 r4 r5 r6 r7
            go_loopw [9] (fun i wr => ∃ p : Int, i = .int .i64 p ∧ 0 ≤ p ∧ p ≤ 101 ∧ Hid (FIn wr w.heap.size ⟨L, Ap, cp, some ⟨bk, ok, none⟩, cq⟩ f) ∧ Hid (Below W0.heap.size W0 wr)) (fun i _ => 200 - (intOf i).toNat)
            case atStart => exact ⟨_, rfl, by omega, by omega, M, B⟩
            case round =>
              obtain ⟨p, rfl, hp0, hp1, M, B⟩ := hrel
              obtain ⟨r0, r1, r2, r3, r4, r5, r6, r7⟩ := M.out.x.cells
              by_cases hlt : p ≤ 0
              · have hkd : decide (p ≤ 0) = true := decide_eq_true hlt
                have hp9 : p ≤ 99 := by omega
                have H22 := Lib.hid (fun W hW => HOF.out p W hW)
                have H36g := Lib.hid (fun G W hW => HWG.out p hp0 hp9 G W hW)
                have hmn := HWN.out p hp0 hp9
                generalize wonN (withV (offerF f i p).q (rdF (offerF f i p)) i) (outV (offerF f i p).q (rdF (offerF f i p)) i) = m at H36g hmn
                by_cases hpn : p < 0
                · obtain rfl : m = 2 := hmn.2 hpn
                  have hd1 : decide (p < 0) = true := decide_eq_true hpn
                  clear hmn hlt
                  go_wp2_with (first
                    | (go_at_call 22; refine (H22.out wr M.out.H).mono ?_; rintro e w5 ⟨⟨⟨⟨k1, k2, k3, k4, k5, k6⟩, k7, k8, k9, k10⟩, rfl, hcf, hq⟩, hb⟩; have HG := Lib.hid (CopRet.fair hcf hq).1; have B5 := Lib.hid (hb0to B.out hb); have M5 := Lib.hid (M.out.next hb); clear hcf hq hb)
                    | (go_at_call 36; refine (H36g.out _ w5 HG.out).mono ?_; rintro e w6 ⟨rfl, hb⟩; have B6 := Lib.hid (hb0to B5.out hb); have M6 := Lib.hid (M5.out.next hb); clear hb))
                  go_roundw
                  case rel => exact ⟨p + 1, by go_num, by omega, by omega, M6, B6⟩
                  case measure => simp [intOf]; omega
                · have hd1 : decide (p < 0) = false := decide_eq_false hpn
                  have hd2 : (m == (2 : Int)) = false := beq_eq_false_iff_ne.2 (fun h => hpn (hmn.1 h))
                  clear hmn hlt
                  go_wp2_with (first
                    | (go_at_call 22; refine (H22.out wr M.out.H).mono ?_; rintro e w5 ⟨⟨⟨⟨k1, k2, k3, k4, k5, k6⟩, k7, k8, k9, k10⟩, rfl, hcf, hq⟩, hb⟩; have HG := Lib.hid (CopRet.fair hcf hq).1; have B5 := Lib.hid (hb0to B.out hb); have M5 := Lib.hid (M.out.next hb); clear hcf hq hb)
                    | (go_at_call 36; refine (H36g.out _ w5 HG.out).mono ?_; rintro e w6 ⟨rfl, hb⟩; have B6 := Lib.hid (hb0to B5.out hb); have M6 := Lib.hid (M5.out.next hb); clear hb))
                  go_roundw
                  case rel => exact ⟨p + 1, by go_num, by omega, by omega, M6, B6⟩
                  case measure => simp [intOf]; omega
              · have hkd : decide (p ≤ 0) = false := decide_eq_false hlt
                clear hlt
                go_wp2_with (go_at_call 19; refine (works_any _).mono ?_; rintro e wn ⟨rfl, hb⟩; have MN := Lib.hid (M.out.next hb); have BN := Lib.hid (hb0to B.out hb); have M := MN; have B := BN; clear MN BN; (first | (have IN := Lib.hid (ints_later I.out hb); have I := IN; clear IN) | skip); obtain ⟨r0, r1, r2, r3, r4, r5, r6, r7⟩ := M.out.x.cells; clear hb)
                go_ret
                exact ⟨rfl, hb0to HBW.out B.out⟩

      · have H37 := Lib.hid (fun W hW => H37.out W hW)
        rw [if_neg (by decide)] at H37
        rcases hkn with ⟨rfl, hd3⟩ | ⟨hd4, hd3⟩
        · as_aux_lemma =>
            go_enter Try.func8, Try.ntmps8
            go_upto_region 1 with (fail)
            have e := HW0.out
            rw [e]
            clear e
            go_wp2_with (first
              | (go_at_call 16; refine (H16.out _ M.out.H).mono ?_; rintro e wn ⟨rfl, hb⟩; have MN := Lib.hid (M.out.next hb); have BN := Lib.hid (hb0to B.out hb); have M := MN; have B := BN; clear MN BN; (first | (have IN := Lib.hid (ints_later I.out hb); have I := IN; clear IN) | skip); obtain ⟨r0, r1, r2, r3, r4, r5, r6, r7⟩ := M.out.x.cells; clear hb)
              | (go_at_call 35; refine (H35.out _).mono ?_; rintro e wn ⟨rfl, hb⟩; have MN := Lib.hid (M.out.next hb); have BN := Lib.hid (hb0to B.out hb); have M := MN; have B := BN; clear MN BN; (first | (have IN := Lib.hid (ints_later I.out hb); have I := IN; clear IN) | skip); obtain ⟨r0, r1, r2, r3, r4, r5, r6, r7⟩ := M.out.x.cells; clear hb)
              | (go_at_call 37; refine (H37.out _ M.out.H).mono ?_; rintro e wn ⟨rfl, hb⟩; have MN := Lib.hid (M.out.next hb); have BN := Lib.hid (hb0to B.out hb); have M := MN; have B := BN; clear MN BN; (first | (have IN := Lib.hid (ints_later I.out hb); have I := IN; clear IN) | skip); obtain ⟨r0, r1, r2, r3, r4, r5, r6, r7⟩ := M.out.x.cells; clear H37; clear hb)
              | (go_at_call 36; refine (H36.out _ M.out.H).mono ?_; rintro e wn ⟨rfl, hb⟩; have MN := Lib.hid (M.out.next hb); have BN := Lib.hid (hb0to B.out hb); have M := MN; have B := BN; clear MN BN; (first | (have IN := Lib.hid (ints_later I.out hb); have I := IN; clear IN) | skip); obtain ⟨r0, r1, r2, r3, r4, r5, r6, r7⟩ := M.out.x.cells; have e3 := below_cell B.out X3.out; clear H36; clear hb)
              | (go_at_call 18; refine (within1_any _ _ _ _).mono ?_; rintro e wn ⟨rfl, rfl⟩))
            clear H16 H35 e3 r0 r1 r2 r3 r4 r5 r6 r7
            go_loopw [9] (fun i wr => ∃ p : Int, i = .int .i64 p ∧ 0 ≤ p ∧ p ≤ 101 ∧ Hid (FIn wr w.heap.size ⟨L, Ap, cp, some ⟨bk, ok, none⟩, cq⟩ f) ∧ Hid (Below W0.heap.size W0 wr)) (fun i _ => 200 - (intOf i).toNat)
            case atStart => exact ⟨_, rfl, by omega, by omega, M, B⟩
            case round =>
              obtain ⟨p, rfl, hp0, hp1, M, B⟩ := hrel
              obtain ⟨r0, r1, r2, r3, r4, r5, r6, r7⟩ := M.out.x.cells
              by_cases hlt : p ≤ 1
              · have hkd : decide (p ≤ 1) = true := decide_eq_true hlt
                have hp9 : p ≤ 99 := by omega
                have H22 := Lib.hid (fun W hW => HOF.out p W hW)
                have H36g := Lib.hid (fun G W hW => HWG.out p hp0 hp9 G W hW)
                have hmn := HWN.out p hp0 hp9
                generalize wonN (withV (offerF f i p).q (rdF (offerF f i p)) i) (outV (offerF f i p).q (rdF (offerF f i p)) i) = m at H36g hmn
                by_cases hpn : p < 1
                · obtain rfl : m = 2 := hmn.2 hpn
                  have hd1 : decide (p < 1) = true := decide_eq_true hpn
                  clear hmn hlt
                  go_wp2_with (first
                    | (go_at_call 22; refine (H22.out wr M.out.H).mono ?_; rintro e w5 ⟨⟨⟨⟨k1, k2, k3, k4, k5, k6⟩, k7, k8, k9, k10⟩, rfl, hcf, hq⟩, hb⟩; have HG := Lib.hid (CopRet.fair hcf hq).1; have B5 := Lib.hid (hb0to B.out hb); have M5 := Lib.hid (M.out.next hb); clear hcf hq hb)
                    | (go_at_call 36; refine (H36g.out _ w5 HG.out).mono ?_; rintro e w6 ⟨rfl, hb⟩; have B6 := Lib.hid (hb0to B5.out hb); have M6 := Lib.hid (M5.out.next hb); clear hb))
                  go_roundw
                  case rel => exact ⟨p + 1, by go_num, by omega, by omega, M6, B6⟩
                  case measure => simp [intOf]; omega
                · have hd1 : decide (p < 1) = false := decide_eq_false hpn
                  have hd2 : (m == (2 : Int)) = false := beq_eq_false_iff_ne.2 (fun h => hpn (hmn.1 h))
                  clear hmn hlt
                  go_wp2_with (first
                    | (go_at_call 22; refine (H22.out wr M.out.H).mono ?_; rintro e w5 ⟨⟨⟨⟨k1, k2, k3, k4, k5, k6⟩, k7, k8, k9, k10⟩, rfl, hcf, hq⟩, hb⟩; have HG := Lib.hid (CopRet.fair hcf hq).1; have B5 := Lib.hid (hb0to B.out hb); have M5 := Lib.hid (M.out.next hb); clear hcf hq hb)
                    | (go_at_call 36; refine (H36g.out _ w5 HG.out).mono ?_; rintro e w6 ⟨rfl, hb⟩; have B6 := Lib.hid (hb0to B5.out hb); have M6 := Lib.hid (M5.out.next hb); clear hb))
                  go_roundw
                  case rel => exact ⟨p + 1, by go_num, by omega, by omega, M6, B6⟩
                  case measure => simp [intOf]; omega
              · have hkd : decide (p ≤ 1) = false := decide_eq_false hlt
                clear hlt
                go_wp2_with (go_at_call 19; refine (works_any _).mono ?_; rintro e wn ⟨rfl, hb⟩; have MN := Lib.hid (M.out.next hb); have BN := Lib.hid (hb0to B.out hb); have M := MN; have B := BN; clear MN BN; (first | (have IN := Lib.hid (ints_later I.out hb); have I := IN; clear IN) | skip); obtain ⟨r0, r1, r2, r3, r4, r5, r6, r7⟩ := M.out.x.cells; clear hb)
                go_ret
                exact ⟨rfl, hb0to HBW.out B.out⟩

        · as_aux_lemma =>
            go_enter Try.func8, Try.ntmps8
            go_upto_region 1 with (fail)
            have e := HW0.out
            rw [e]
            clear e
            go_wp2_with (first
              | (go_at_call 16; refine (H16.out _ M.out.H).mono ?_; rintro e wn ⟨rfl, hb⟩; have MN := Lib.hid (M.out.next hb); have BN := Lib.hid (hb0to B.out hb); have M := MN; have B := BN; clear MN BN; (first | (have IN := Lib.hid (ints_later I.out hb); have I := IN; clear IN) | skip); obtain ⟨r0, r1, r2, r3, r4, r5, r6, r7⟩ := M.out.x.cells; clear hb)
              | (go_at_call 35; refine (H35.out _).mono ?_; rintro e wn ⟨rfl, hb⟩; have MN := Lib.hid (M.out.next hb); have BN := Lib.hid (hb0to B.out hb); have M := MN; have B := BN; clear MN BN; (first | (have IN := Lib.hid (ints_later I.out hb); have I := IN; clear IN) | skip); obtain ⟨r0, r1, r2, r3, r4, r5, r6, r7⟩ := M.out.x.cells; clear hb)
              | (go_at_call 37; refine (H37.out _ M.out.H).mono ?_; rintro e wn ⟨rfl, hb⟩; have MN := Lib.hid (M.out.next hb); have BN := Lib.hid (hb0to B.out hb); have M := MN; have B := BN; clear MN BN; (first | (have IN := Lib.hid (ints_later I.out hb); have I := IN; clear IN) | skip); obtain ⟨r0, r1, r2, r3, r4, r5, r6, r7⟩ := M.out.x.cells; clear H37; clear hb)
              | (go_at_call 36; refine (H36.out _ M.out.H).mono ?_; rintro e wn ⟨rfl, hb⟩; have MN := Lib.hid (M.out.next hb); have BN := Lib.hid (hb0to B.out hb); have M := MN; have B := BN; clear MN BN; (first | (have IN := Lib.hid (ints_later I.out hb); have I := IN; clear IN) | skip); obtain ⟨r0, r1, r2, r3, r4, r5, r6, r7⟩ := M.out.x.cells; have e3 := below_cell B.out X3.out; clear H36; clear hb)
              | (go_at_call 18; refine (within1_any _ _ _ _).mono ?_; rintro e wn ⟨rfl, rfl⟩))
            clear H16 H35 e3 r0 r1 r2 r3 r4 r5 r6 r7
            go_loopw [9] (fun i wr => ∃ p : Int, i = .int .i64 p ∧ 0 ≤ p ∧ p ≤ 101 ∧ Hid (FIn wr w.heap.size ⟨L, Ap, cp, some ⟨bk, ok, none⟩, cq⟩ f) ∧ Hid (Below W0.heap.size W0 wr)) (fun i _ => 200 - (intOf i).toNat)
            case atStart => exact ⟨_, rfl, by omega, by omega, M, B⟩
            case round =>
              obtain ⟨p, rfl, hp0, hp1, M, B⟩ := hrel
              obtain ⟨r0, r1, r2, r3, r4, r5, r6, r7⟩ := M.out.x.cells
              by_cases hlt : p ≤ 1
              · have hkd : decide (p ≤ 1) = true := decide_eq_true hlt
                have hp9 : p ≤ 99 := by omega
                have H22 := Lib.hid (fun W hW => HOF.out p W hW)
                have H36g := Lib.hid (fun G W hW => HWG.out p hp0 hp9 G W hW)
                have hmn := HWN.out p hp0 hp9
                generalize wonN (withV (offerF f i p).q (rdF (offerF f i p)) i) (outV (offerF f i p).q (rdF (offerF f i p)) i) = m at H36g hmn
                by_cases hpn : p < 1
                · obtain rfl : m = 2 := hmn.2 hpn
                  have hd1 : decide (p < 1) = true := decide_eq_true hpn
                  clear hmn hlt
                  go_wp2_with (first
                    | (go_at_call 22; refine (H22.out wr M.out.H).mono ?_; rintro e w5 ⟨⟨⟨⟨k1, k2, k3, k4, k5, k6⟩, k7, k8, k9, k10⟩, rfl, hcf, hq⟩, hb⟩; have HG := Lib.hid (CopRet.fair hcf hq).1; have B5 := Lib.hid (hb0to B.out hb); have M5 := Lib.hid (M.out.next hb); clear hcf hq hb)
                    | (go_at_call 36; refine (H36g.out _ w5 HG.out).mono ?_; rintro e w6 ⟨rfl, hb⟩; have B6 := Lib.hid (hb0to B5.out hb); have M6 := Lib.hid (M5.out.next hb); clear hb))
                  go_roundw
                  case rel => exact ⟨p + 1, by go_num, by omega, by omega, M6, B6⟩
                  case measure => simp [intOf]; omega
                · have hd1 : decide (p < 1) = false := decide_eq_false hpn
                  have hd2 : (m == (2 : Int)) = false := beq_eq_false_iff_ne.2 (fun h => hpn (hmn.1 h))
                  clear hmn hlt
                  go_wp2_with (first
                    | (go_at_call 22; refine (H22.out wr M.out.H).mono ?_; rintro e w5 ⟨⟨⟨⟨k1, k2, k3, k4, k5, k6⟩, k7, k8, k9, k10⟩, rfl, hcf, hq⟩, hb⟩; have HG := Lib.hid (CopRet.fair hcf hq).1; have B5 := Lib.hid (hb0to B.out hb); have M5 := Lib.hid (M.out.next hb); clear hcf hq hb)
                    | (go_at_call 36; refine (H36g.out _ w5 HG.out).mono ?_; rintro e w6 ⟨rfl, hb⟩; have B6 := Lib.hid (hb0to B5.out hb); have M6 := Lib.hid (M5.out.next hb); clear hb))
                  go_roundw
                  case rel => exact ⟨p + 1, by go_num, by omega, by omega, M6, B6⟩
                  case measure => simp [intOf]; omega
              · have hkd : decide (p ≤ 1) = false := decide_eq_false hlt
                clear hlt
                go_wp2_with (go_at_call 19; refine (works_any _).mono ?_; rintro e wn ⟨rfl, hb⟩; have MN := Lib.hid (M.out.next hb); have BN := Lib.hid (hb0to B.out hb); have M := MN; have B := BN; clear MN BN; (first | (have IN := Lib.hid (ints_later I.out hb); have I := IN; clear IN) | skip); obtain ⟨r0, r1, r2, r3, r4, r5, r6, r7⟩ := M.out.x.cells; clear hb)
                go_ret
                exact ⟨rfl, hb0to HBW.out B.out⟩

      · have H37 := Lib.hid (fun W hW => H37.out W hW)
        rw [if_neg (by omega)] at H37
        have hn3 : 0 < n - 1 := by omega
        have hdn0 : decide (n < 0) = false := decide_eq_false (by omega)
        have hdn1 : decide (100 < n) = false := decide_eq_false (by omega)
        rcases hkn with ⟨rfl, hd3⟩ | ⟨hd4, hd3⟩
        · as_aux_lemma =>
            go_enter Try.func8, Try.ntmps8
            go_upto_region 1 with (fail)
            have e := HW0.out
            rw [e]
            clear e
            go_wp2_with (first
              | (go_at_call 16; refine (H16.out _ M.out.H).mono ?_; rintro e wn ⟨rfl, hb⟩; have MN := Lib.hid (M.out.next hb); have BN := Lib.hid (hb0to B.out hb); have M := MN; have B := BN; clear MN BN; (first | (have IN := Lib.hid (ints_later I.out hb); have I := IN; clear IN) | skip); obtain ⟨r0, r1, r2, r3, r4, r5, r6, r7⟩ := M.out.x.cells; clear hb)
              | (go_at_call 35; refine (H35.out _).mono ?_; rintro e wn ⟨rfl, hb⟩; have MN := Lib.hid (M.out.next hb); have BN := Lib.hid (hb0to B.out hb); have M := MN; have B := BN; clear MN BN; (first | (have IN := Lib.hid (ints_later I.out hb); have I := IN; clear IN) | skip); obtain ⟨r0, r1, r2, r3, r4, r5, r6, r7⟩ := M.out.x.cells; clear hb)
              | (go_at_call 37; refine (H37.out _ M.out.H).mono ?_; rintro e wn ⟨rfl, hb⟩; have MN := Lib.hid (M.out.next hb); have BN := Lib.hid (hb0to B.out hb); have M := MN; have B := BN; clear MN BN; (first | (have IN := Lib.hid (ints_later I.out hb); have I := IN; clear IN) | skip); obtain ⟨r0, r1, r2, r3, r4, r5, r6, r7⟩ := M.out.x.cells; clear H37; clear hb)
              | (go_at_call 36; refine (H36.out _ M.out.H).mono ?_; rintro e wn ⟨rfl, hb⟩; have MN := Lib.hid (M.out.next hb); have BN := Lib.hid (hb0to B.out hb); have M := MN; have B := BN; clear MN BN; (first | (have IN := Lib.hid (ints_later I.out hb); have I := IN; clear IN) | skip); obtain ⟨r0, r1, r2, r3, r4, r5, r6, r7⟩ := M.out.x.cells; have e3 := below_cell B.out X3.out; clear H36; clear hb)
              | (go_at_call 18; refine (within1_any _ _ _ _).mono ?_; rintro e wn ⟨rfl, rfl⟩))
            clear H16 H35 e3 r0 r1 r2 r3 r4 r5 r6 r7
            go_loopw [9] (fun i wr => ∃ p : Int, i = .int .i64 p ∧ 0 ≤ p ∧ p ≤ 101 ∧ Hid (FIn wr w.heap.size ⟨L, Ap, cp, some ⟨bk, ok, none⟩, cq⟩ f) ∧ Hid (Below W0.heap.size W0 wr)) (fun i _ => 200 - (intOf i).toNat)
            case atStart => exact ⟨_, rfl, by omega, by omega, M, B⟩
            case round =>
              obtain ⟨p, rfl, hp0, hp1, M, B⟩ := hrel
              obtain ⟨r0, r1, r2, r3, r4, r5, r6, r7⟩ := M.out.x.cells
              by_cases hlt : p ≤ n
              · have hkd : decide (p ≤ n) = true := decide_eq_true hlt
                have hp9 : p ≤ 99 := by omega
                have H22 := Lib.hid (fun W hW => HOF.out p W hW)
                have H36g := Lib.hid (fun G W hW => HWG.out p hp0 hp9 G W hW)
                have hmn := HWN.out p hp0 hp9
                generalize wonN (withV (offerF f i p).q (rdF (offerF f i p)) i) (outV (offerF f i p).q (rdF (offerF f i p)) i) = m at H36g hmn
                by_cases hpn : p < n
                · obtain rfl : m = 2 := hmn.2 hpn
                  have hd1 : decide (p < n) = true := decide_eq_true hpn
                  clear hmn hlt
                  go_wp2_with (first
                    | (go_at_call 22; refine (H22.out wr M.out.H).mono ?_; rintro e w5 ⟨⟨⟨⟨k1, k2, k3, k4, k5, k6⟩, k7, k8, k9, k10⟩, rfl, hcf, hq⟩, hb⟩; have HG := Lib.hid (CopRet.fair hcf hq).1; have B5 := Lib.hid (hb0to B.out hb); have M5 := Lib.hid (M.out.next hb); clear hcf hq hb)
                    | (go_at_call 36; refine (H36g.out _ w5 HG.out).mono ?_; rintro e w6 ⟨rfl, hb⟩; have B6 := Lib.hid (hb0to B5.out hb); have M6 := Lib.hid (M5.out.next hb); clear hb))
                  go_roundw
                  case rel => exact ⟨p + 1, by go_num, by omega, by omega, M6, B6⟩
                  case measure => simp [intOf]; omega
                · have hd1 : decide (p < n) = false := decide_eq_false hpn
                  have hd2 : (m == (2 : Int)) = false := beq_eq_false_iff_ne.2 (fun h => hpn (hmn.1 h))
                  clear hmn hlt
                  go_wp2_with (first
                    | (go_at_call 22; refine (H22.out wr M.out.H).mono ?_; rintro e w5 ⟨⟨⟨⟨k1, k2, k3, k4, k5, k6⟩, k7, k8, k9, k10⟩, rfl, hcf, hq⟩, hb⟩; have HG := Lib.hid (CopRet.fair hcf hq).1; have B5 := Lib.hid (hb0to B.out hb); have M5 := Lib.hid (M.out.next hb); clear hcf hq hb)
                    | (go_at_call 36; refine (H36g.out _ w5 HG.out).mono ?_; rintro e w6 ⟨rfl, hb⟩; have B6 := Lib.hid (hb0to B5.out hb); have M6 := Lib.hid (M5.out.next hb); clear hb))
                  go_roundw
                  case rel => exact ⟨p + 1, by go_num, by omega, by omega, M6, B6⟩
                  case measure => simp [intOf]; omega
              · have hkd : decide (p ≤ n) = false := decide_eq_false hlt
                clear hlt
                go_wp2_with (go_at_call 19; refine (works_any _).mono ?_; rintro e wn ⟨rfl, hb⟩; have MN := Lib.hid (M.out.next hb); have BN := Lib.hid (hb0to B.out hb); have M := MN; have B := BN; clear MN BN; (first | (have IN := Lib.hid (ints_later I.out hb); have I := IN; clear IN) | skip); obtain ⟨r0, r1, r2, r3, r4, r5, r6, r7⟩ := M.out.x.cells; clear hb)
                go_ret
                exact ⟨rfl, hb0to HBW.out B.out⟩

        · as_aux_lemma =>
            go_enter Try.func8, Try.ntmps8
            go_upto_region 1 with (fail)
            have e := HW0.out
            rw [e]
            clear e
            go_wp2_with (first
              | (go_at_call 16; refine (H16.out _ M.out.H).mono ?_; rintro e wn ⟨rfl, hb⟩; have MN := Lib.hid (M.out.next hb); have BN := Lib.hid (hb0to B.out hb); have M := MN; have B := BN; clear MN BN; (first | (have IN := Lib.hid (ints_later I.out hb); have I := IN; clear IN) | skip); obtain ⟨r0, r1, r2, r3, r4, r5, r6, r7⟩ := M.out.x.cells; clear hb)
              | (go_at_call 35; refine (H35.out _).mono ?_; rintro e wn ⟨rfl, hb⟩; have MN := Lib.hid (M.out.next hb); have BN := Lib.hid (hb0to B.out hb); have M := MN; have B := BN; clear MN BN; (first | (have IN := Lib.hid (ints_later I.out hb); have I := IN; clear IN) | skip); obtain ⟨r0, r1, r2, r3, r4, r5, r6, r7⟩ := M.out.x.cells; clear hb)
              | (go_at_call 37; refine (H37.out _ M.out.H).mono ?_; rintro e wn ⟨rfl, hb⟩; have MN := Lib.hid (M.out.next hb); have BN := Lib.hid (hb0to B.out hb); have M := MN; have B := BN; clear MN BN; (first | (have IN := Lib.hid (ints_later I.out hb); have I := IN; clear IN) | skip); obtain ⟨r0, r1, r2, r3, r4, r5, r6, r7⟩ := M.out.x.cells; clear H37; clear hb)
              | (go_at_call 36; refine (H36.out _ M.out.H).mono ?_; rintro e wn ⟨rfl, hb⟩; have MN := Lib.hid (M.out.next hb); have BN := Lib.hid (hb0to B.out hb); have M := MN; have B := BN; clear MN BN; (first | (have IN := Lib.hid (ints_later I.out hb); have I := IN; clear IN) | skip); obtain ⟨r0, r1, r2, r3, r4, r5, r6, r7⟩ := M.out.x.cells; have e3 := below_cell B.out X3.out; clear H36; clear hb)
              | (go_at_call 18; refine (within1_any _ _ _ _).mono ?_; rintro e wn ⟨rfl, rfl⟩))
            clear H16 H35 e3 r0 r1 r2 r3 r4 r5 r6 r7
            go_loopw [9] (fun i wr => ∃ p : Int, i = .int .i64 p ∧ 0 ≤ p ∧ p ≤ 101 ∧ Hid (FIn wr w.heap.size ⟨L, Ap, cp, some ⟨bk, ok, none⟩, cq⟩ f) ∧ Hid (Below W0.heap.size W0 wr)) (fun i _ => 200 - (intOf i).toNat)
            case atStart => exact ⟨_, rfl, by omega, by omega, M, B⟩
            case round =>
              obtain ⟨p, rfl, hp0, hp1, M, B⟩ := hrel
              obtain ⟨r0, r1, r2, r3, r4, r5, r6, r7⟩ := M.out.x.cells
              by_cases hlt : p ≤ n
              · have hkd : decide (p ≤ n) = true := decide_eq_true hlt
                have hp9 : p ≤ 99 := by omega
                have H22 := Lib.hid (fun W hW => HOF.out p W hW)
                have H36g := Lib.hid (fun G W hW => HWG.out p hp0 hp9 G W hW)
                have hmn := HWN.out p hp0 hp9
                generalize wonN (withV (offerF f i p).q (rdF (offerF f i p)) i) (outV (offerF f i p).q (rdF (offerF f i p)) i) = m at H36g hmn
                by_cases hpn : p < n
                · obtain rfl : m = 2 := hmn.2 hpn
                  have hd1 : decide (p < n) = true := decide_eq_true hpn
                  clear hmn hlt
                  go_wp2_with (first
                    | (go_at_call 22; refine (H22.out wr M.out.H).mono ?_; rintro e w5 ⟨⟨⟨⟨k1, k2, k3, k4, k5, k6⟩, k7, k8, k9, k10⟩, rfl, hcf, hq⟩, hb⟩; have HG := Lib.hid (CopRet.fair hcf hq).1; have B5 := Lib.hid (hb0to B.out hb); have M5 := Lib.hid (M.out.next hb); clear hcf hq hb)
                    | (go_at_call 36; refine (H36g.out _ w5 HG.out).mono ?_; rintro e w6 ⟨rfl, hb⟩; have B6 := Lib.hid (hb0to B5.out hb); have M6 := Lib.hid (M5.out.next hb); clear hb))
                  go_roundw
                  case rel => exact ⟨p + 1, by go_num, by omega, by omega, M6, B6⟩
                  case measure => simp [intOf]; omega
                · have hd1 : decide (p < n) = false := decide_eq_false hpn
                  have hd2 : (m == (2 : Int)) = false := beq_eq_false_iff_ne.2 (fun h => hpn (hmn.1 h))
                  clear hmn hlt
                  go_wp2_with (first
                    | (go_at_call 22; refine (H22.out wr M.out.H).mono ?_; rintro e w5 ⟨⟨⟨⟨k1, k2, k3, k4, k5, k6⟩, k7, k8, k9, k10⟩, rfl, hcf, hq⟩, hb⟩; have HG := Lib.hid (CopRet.fair hcf hq).1; have B5 := Lib.hid (hb0to B.out hb); have M5 := Lib.hid (M.out.next hb); clear hcf hq hb)
                    | (go_at_call 36; refine (H36g.out _ w5 HG.out).mono ?_; rintro e w6 ⟨rfl, hb⟩; have B6 := Lib.hid (hb0to B5.out hb); have M6 := Lib.hid (M5.out.next hb); clear hb))
                  go_roundw
                  case rel => exact ⟨p + 1, by go_num, by omega, by omega, M6, B6⟩
                  case measure => simp [intOf]; omega
              · have hkd : decide (p ≤ n) = false := decide_eq_false hlt
                clear hlt
                go_wp2_with (go_at_call 19; refine (works_any _).mono ?_; rintro e wn ⟨rfl, hb⟩; have MN := Lib.hid (M.out.next hb); have BN := Lib.hid (hb0to B.out hb); have M := MN; have B := BN; clear MN BN; (first | (have IN := Lib.hid (ints_later I.out hb); have I := IN; clear IN) | skip); obtain ⟨r0, r1, r2, r3, r4, r5, r6, r7⟩ := M.out.x.cells; clear hb)
                go_ret
                exact ⟨rfl, hb0to HBW.out B.out⟩


end Go.Proofs.Ytmconopnplgcfaa
