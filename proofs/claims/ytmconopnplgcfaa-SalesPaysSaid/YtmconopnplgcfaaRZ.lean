import Derived.Test.YtmconopnplgcfaaRX
namespace Go.Proofs.Ytmconopnplgcfaa
open Go.RowKit

/-! paysOf 92, Pays 52, Paid 53. -/
theorem any_snoc (p : Nat → Bool) (l : List Nat) (i : Nat) : (l ++ [i]).any p = (l.any p || p i) := by simp
set_option maxRecDepth 100000 in
set_option maxHeartbeats 4000000 in
theorem paysOf_any (F : FL) (f : Fair) (hn : FN f) (hok : FLOK F f) (hv : validF f = true) (v : Int) (w : World) (hF : FairAt w w.heap.size F f) : Calls Try.prog 92 #[F.enc f, .int .i64 v] w fun e w' => e = .returned (.int .i64 (payV f.q (rdF f) v)) ∧ Below w.heap.size w w' := by
  have hbw := al_below w (.cells #[.slice F.L.Ak f.h.ks.length F.L.ck, .int .i64 f.h.fl, .slice F.L.Ap f.h.ps.length F.L.cp, .slice F.L.Ab f.h.bs.length F.L.cb, .slice F.Ap f.pk.length F.cp, .int .i64 f.day, .int .i64 f.nb, .slice F.Aq f.q.length F.cq] 29)
  have HB := Lib.hid (FBox.new w F f)
  obtain ⟨c0, c1, c2, c3, c4, c5, c6, c7⟩ := (FBox.new w F f).cells
  obtain ⟨W0, hW0⟩ : ∃ W0, w.alloc (.cells #[.slice F.L.Ak f.h.ks.length F.L.ck, .int .i64 f.h.fl, .slice F.L.Ap f.h.ps.length F.L.cp, .slice F.L.Ab f.h.bs.length F.L.cb, .slice F.Ap f.pk.length F.cp, .int .i64 f.day, .int .i64 f.nb, .slice F.Aq f.q.length F.cq] 29) = W0 := ⟨_, rfl⟩
  rw [hW0] at hbw HB c0 c1 c2 c3 c4 c5 c6 c7
  have HBW := Lib.hid hbw
  have HW0 := Lib.hid hW0
  have HF := Lib.hid (hF.below hbw)
  clear hbw hW0 hF
  have hf := FOK.of hv
  have hql := hf.ql
  have HPAY := Lib.hid hf.pay
  have H81 := Lib.hid (fun W hW => winnersOf_any F f hn hf W hW)
  have H26 := Lib.hid (fun W hW => without_any F f hn hok v W hW)
  have H79 := Lib.hid (fun G W hW => mostOf_any G (withoutF f v) (without_fn hn v) (FOK.of (without_valid hv v)) W hW)
  have hmb := mW_bd (FOK.of (without_valid hv v))
  unfold mW at hmb
  have HP : Hid (payV f.q (rdF f) v = if (winL f.q (rdF f)).any (ownP f.q v) = true then mostV (withoutF f v).q (rdF (withoutF f v)) - othersL f.q v (winL f.q (rdF f)) else 0) := Lib.hid (by unfold payV; rw [← without_most hv v]; rfl)
  have HLT := Lib.hid (fun i (hi : i ∈ winL f.q (rdF f)) => (wL_win hf).sale.lt hi)
  have hll : (winL f.q (rdF f)).length ≤ 8 := Nat.le_trans (bits_len _ _) hf.ql
  generalize mostV (withoutF f v).q (rdF (withoutF f v)) = m at H79 hmb HP
  generalize payV f.q (rdF f) v = pv at HP ⊢
  generalize winL f.q (rdF f) = l at H81 HP HLT hll
  clear hn hok hv hf
  obtain ⟨L, Ap, cp, Aq, cq⟩ := F
  go_enter Try.func92, Try.ntmps92
  go_upto_region 1 with (fail)
  have e := HW0.out
  rw [e]
  clear e

  go_wp2_with (go_at_call 81; refine (H81.out W0 HF.out).mono ?_; rintro e w1 ⟨⟨A1, cs1, rfl, _, hI⟩, hb⟩; have HI := Lib.hid hI.at_; have B1 := Lib.hid hb; clear hI hb)
  clear c0 c1 c2 c3 c4 c5 c6 c7
  go_loopw [6, 7, 8] (fun s b i wr => ∃ k : Nat, k ≤ l.length ∧ i = .int .i64 k ∧ (∃ (t : Int) (bw : Bool), s = .int .i64 t ∧ b = .bool bw ∧ 0 ≤ t ∧ t ≤ 99 * (k : Int) ∧ Hid (othersL f.q v (l.take k) = t) ∧ Hid ((l.take k).any (ownP f.q v) = bw)) ∧ Hid (Below w1.heap.size w1 wr)) (fun _ _ i _ => l.length - (intOf i).toNat)
  case atStart => exact ⟨0, Nat.zero_le _, rfl, ⟨0, false, rfl, rfl, by omega, by omega, Lib.hid rfl, Lib.hid rfl⟩, Lib.hid (Below.refl _ _)⟩
  case round =>
    obtain ⟨k, hk, rfl, ⟨t, bw, rfl, rfl, ht0, ht1, hot, hbw⟩, hb⟩ := hrel
    have hbW := hb0to B1.out hb.out
    obtain ⟨g0, g1, g2, g3, g4, g5, g6, g7⟩ := (HB.out.of (hbW.block _ HB.out.lt)).cells
    by_cases hlt : k < l.length
    · obtain ⟨n, hy⟩ : ∃ n, l[k]? = some n := ⟨_, List.getElem?_eq_getElem hlt⟩
      have hnq : n < f.q.length := HLT.out n (List.mem_of_getElem? hy)
      obtain ⟨x, hx⟩ : ∃ x, f.q[n]? = some x := ⟨_, List.getElem?_eq_getElem hnq⟩
      have hxp := HPAY.out x (List.mem_of_getElem? hx)
      obtain ⟨b1, o1, eA1, b1lt, d1⟩ := HI.out.at_ (intsN_at hy)
      obtain ⟨bk, ok, A', c', eA, hbk, x1, x2, x3, hA', hXI⟩ := HF.out.q.at_ hx
      simp only at eA
      have HEA := Lib.hid eA
      rw [eA] at g7
      cases eA1
      have e0 := below_cell hb.out d1
      have e1 := below_cell hbW x1
      have e3 := below_cell hbW x3
      have HOS := Lib.hid (others_snoc f.q v (l.take k) n)
      have HAS := Lib.hid (any_snoc (ownP f.q v) (l.take k) n)
      rw [take_snoc_next hy, hot.out, own_some hx, payAt_some hx] at HOS
      rw [take_snoc_next hy, hbw.out, own_some hx] at HAS
      have hnq8 : n < 8 := by omega
      clear d1 x1 x2 x3 hA' hXI hy hx eA g0 g1 g2 g3 g4 g5 g6 hbW
      by_cases how : x.who = v
      · have hd : (x.who == v) = true := beq_iff_eq.2 how
        rw [show decide (x.who = v) = true from decide_eq_true how] at HOS HAS
        rw [if_pos rfl] at HOS
        rw [Bool.or_true] at HAS
        clear how
        go_wp2_with (fail)
        go_region_held3 (fun w' => w'.cell? ⟨w.heap.size, 7, none⟩ = some (.slice (some ⟨bk, ok, none⟩) f.q.length cq) ∧ w'.cell? ⟨b1, o1 + k, none⟩ = some (.int .i64 (n : Int)) ∧ w'.cell? ⟨bk, ok + n * 3, none⟩ = some (.int .i64 x.who) ∧ w'.cell? ⟨bk, ok + n * 3 + 2, none⟩ = some (.int .i64 x.pay)) (first | go_keep) (fail)
        go_wp2_with (fail)
        go_roundw
        case rel => exact ⟨k + 1, by omega, by go_num, ⟨t, true, rfl, rfl, by omega, by omega, HOS, HAS⟩, Lib.hid (Below.drew hb.out)⟩
        case measure => simp [intOf]; omega
      · have hd : (x.who == v) = false := beq_eq_false_iff_ne.2 how
        rw [show decide (x.who = v) = false from decide_eq_false how] at HOS HAS
        rw [if_neg (by simp)] at HOS
        rw [Bool.or_false] at HAS
        have hw1 : IntKind.i64.wrap (t + x.pay) = t + x.pay := IntWalk.i64_in _ (by omega)
        clear how
        go_wp2_with (fail)
        go_region_held3 (fun w' => w'.cell? ⟨w.heap.size, 7, none⟩ = some (.slice (some ⟨bk, ok, none⟩) f.q.length cq) ∧ w'.cell? ⟨b1, o1 + k, none⟩ = some (.int .i64 (n : Int)) ∧ w'.cell? ⟨bk, ok + n * 3, none⟩ = some (.int .i64 x.who) ∧ w'.cell? ⟨bk, ok + n * 3 + 2, none⟩ = some (.int .i64 x.pay)) (first | go_keep) (fail)
        go_wp2_with (fail)
        go_region_held3 (fun w' => w'.cell? ⟨w.heap.size, 7, none⟩ = some (.slice (some ⟨bk, ok, none⟩) f.q.length cq) ∧ w'.cell? ⟨b1, o1 + k, none⟩ = some (.int .i64 (n : Int)) ∧ w'.cell? ⟨bk, ok + n * 3, none⟩ = some (.int .i64 x.who) ∧ w'.cell? ⟨bk, ok + n * 3 + 2, none⟩ = some (.int .i64 x.pay)) (first | go_keep) (fail)
        go_wp2_with (fail)
        go_roundw
        case rel => exact ⟨k + 1, by omega, by go_num, ⟨t + x.pay, bw, by go_num, rfl, by omega, by omega, HOS, HAS⟩, Lib.hid (Below.drew (Below.drew hb.out))⟩
        case measure => simp [intOf]; omega
    · obtain rfl : k = l.length := by omega
      have h1 := hot.out
      have h2 := hbw.out
      rw [List.take_length] at h1 h2
      have HP2 := Lib.hid HP.out
      rw [h1, h2] at HP2
      have HPQ := Lib.hid HP2.out
      cases bw
      · have HPZ := Lib.hid (HP2.out.trans (if_neg (by simp)))
        clear h1 h2 HP HP2 HPQ hot hbw
        go_wp2_with (fail)
        go_ret
        exact ⟨congrArg (fun z => Ending.returned (.int .i64 z)) HPZ.out.symm, hb0to HBW.out hbW⟩
      · have HPZ := Lib.hid (HP2.out.trans (if_pos rfl))
        clear h1 h2 HP HP2 HPQ hot hbw
        go_wp2_with (first
          | (go_at_call 26; refine (H26.out _ (HF.out.below hbW)).mono ?_; rintro e w4 ⟨⟨⟨⟨k1, k2, k3, k4, k5, k6⟩, k7, k8, k9, k10⟩, rfl, hg⟩, hb4⟩; have HG := Lib.hid hg; have B4 := Lib.hid (hb0to hbW hb4); clear hg hb4)
          | (go_at_call 79; refine (H79.out _ w4 HG.out).mono ?_; rintro e w5 ⟨rfl, hb5⟩; have B5 := Lib.hid (hb0to B4.out hb5); clear hb5))
        go_ret
        exact ⟨congrArg (fun z => Ending.returned (.int .i64 z)) HPZ.out.symm, hb0to HBW.out B5.out⟩
set_option maxRecDepth 100000 in
set_option maxHeartbeats 4000000 in
theorem rPays_any (F : FL) (f : Fair) (hn : FN f) (hok : FLOK F f) (x : Int) (w : World) (hF : FairAt w w.heap.size F f) : Calls Try.prog 52 #[F.enc f, .int .i64 x] w fun e w' => NumEnd (payRet f x) e ∧ Below w.heap.size w w' := by
  have hbw := al_below w (.cells #[.slice F.L.Ak f.h.ks.length F.L.ck, .int .i64 f.h.fl, .slice F.L.Ap f.h.ps.length F.L.cp, .slice F.L.Ab f.h.bs.length F.L.cb, .slice F.Ap f.pk.length F.cp, .int .i64 f.day, .int .i64 f.nb, .slice F.Aq f.q.length F.cq] 29)
  have HB := Lib.hid (FBox.new w F f)
  obtain ⟨c0, c1, c2, c3, c4, c5, c6, c7⟩ := (FBox.new w F f).cells
  obtain ⟨W0, hW0⟩ : ∃ W0, w.alloc (.cells #[.slice F.L.Ak f.h.ks.length F.L.ck, .int .i64 f.h.fl, .slice F.L.Ap f.h.ps.length F.L.cp, .slice F.L.Ab f.h.bs.length F.L.cb, .slice F.Ap f.pk.length F.cp, .int .i64 f.day, .int .i64 f.nb, .slice F.Aq f.q.length F.cq] 29) = W0 := ⟨_, rfl⟩
  rw [hW0] at hbw HB c0 c1 c2 c3 c4 c5 c6 c7
  have HBW := Lib.hid hbw
  have HW0 := Lib.hid hW0
  have HF := Lib.hid (hF.below hbw)
  clear hbw hW0 hF
  have HN := Lib.hid hn
  obtain ⟨is, his⟩ : ∃ b, b = inR x 0 (IntKind.i64.wrap (f.nb - 1)) := ⟨_, rfl⟩
  have HISX := Lib.hid (fun z => by have h := rIsBuyerW_any F f x (extB W0 z); rw [wrap64_eq, ← his] at h; exact h)
  have H82 := Lib.hid (fun z => rask_any F f HN.out is (extB W0 z) (HF.out.below (extB_below W0 z)))
  have y0 := extB_cell c0
  have y1 := extB_cell c1
  have y2 := extB_cell c2
  have y3 := extB_cell c3
  have y4 := extB_cell c4
  have y5 := extB_cell c5
  have y6 := extB_cell c6
  have y7 := extB_cell c7
  by_cases h0 : askF f is = 0
  · rw [h0] at H82
    obtain ⟨hv, hi⟩ := askF_ok h0
    have hf := FOK.of hv
    have HQ := Lib.hid (show payRet f x = (payV f.q (rdF f) x, 0) by unfold payRet; rw [pay_eq his]; exact numRF_ok h0)
    have H92 := Lib.hid (fun W hW => paysOf_any F f HN.out hok hv x W hW)
    clear hi hf his hv
    clear h0 hn hok
    obtain ⟨L, Ap, cp, Aq, cq⟩ := F
    go_enter Try.func52, Try.ntmps52
    go_upto_region 1 with (fail)
    have e := HW0.out
    rw [e]
    clear e

    refine wp_region_ext (by kernel_rfl) (by kernel_rfl) ?_
    repeat (go_big_quiet_step ((first | (go_at_call 82; exact ext_call (H82.out _)) | (go_at_call 17; exact ext_call (HISX.out _)))))
    refine wpQuiet_nil ?_
    rintro _ ⟨t1, rfl⟩
    clear y0 y1 y2 y3 y4 y5 y6 y7
    have B1 := Lib.hid (extB_below W0 t1)
    obtain ⟨w1, hw1⟩ : ∃ W, extB W0 t1 = W := ⟨_, rfl⟩
    rw [hw1] at B1 ⊢
    clear hw1
    obtain ⟨g0, g1, g2, g3, g4, g5, g6, g7⟩ := (HB.out.of (B1.out.block _ HB.out.lt)).cells
    clear c0 c1 c2 c3 c4 c5 c6 c7
    go_wp2_with (go_at_call 92; refine (H92.out w1 (HF.out.below B1.out)).mono ?_; rintro e w2 ⟨rfl, hb⟩; have B2 := Lib.hid (hb0to B1.out hb); clear hb)
    go_ret2
    exact ⟨NumEnd.mk HQ.out, hb0to HBW.out B2.out⟩
  · obtain ⟨er, her⟩ : ∃ e, e = askF f is := ⟨_, rfl⟩
    have HQ := Lib.hid her
    have HIS := Lib.hid his
    rw [← her] at H82 h0
    have hd : (er != 0) = true := bne_iff_ne.2 h0
    clear h0 her hn hok his
    obtain ⟨L, Ap, cp, Aq, cq⟩ := F
    go_enter Try.func52, Try.ntmps52
    go_upto_region 1 with (fail)
    have e := HW0.out
    rw [e]
    clear e

    refine wp_region_ext (by kernel_rfl) (by kernel_rfl) ?_
    repeat (go_big_quiet_step ((first | (go_at_call 82; exact ext_call (H82.out _)) | (go_at_call 17; exact ext_call (HISX.out _)))))
    refine wpQuiet_nil ?_
    rintro _ ⟨t1, rfl⟩
    clear y0 y1 y2 y3 y4 y5 y6 y7
    have B1 := Lib.hid (extB_below W0 t1)
    obtain ⟨w1, hw1⟩ : ∃ W, extB W0 t1 = W := ⟨_, rfl⟩
    rw [hw1] at B1 ⊢
    clear hw1
    go_wp2_with (fail)
    go_ret2
    exact ⟨NumEnd.mk (by unfold payRet; rw [pay_eq HIS.out]; exact numRF_no HQ.out (bne_iff_ne.1 hd)), hb0to HBW.out B1.out⟩
set_option maxRecDepth 100000 in
set_option maxHeartbeats 4000000 in
theorem rPaid_any (F : FL) (f : Fair) (hn : FN f) (hok : FLOK F f) (w : World) (hF : FairAt w w.heap.size F f) : Calls Try.prog 53 #[F.enc f] w fun e w' => NumEnd (paidRet f) e ∧ Below w.heap.size w w' := by
  have hbw := al_below w (.cells #[.slice F.L.Ak f.h.ks.length F.L.ck, .int .i64 f.h.fl, .slice F.L.Ap f.h.ps.length F.L.cp, .slice F.L.Ab f.h.bs.length F.L.cb, .slice F.Ap f.pk.length F.cp, .int .i64 f.day, .int .i64 f.nb, .slice F.Aq f.q.length F.cq] 29)
  have HB := Lib.hid (FBox.new w F f)
  obtain ⟨c0, c1, c2, c3, c4, c5, c6, c7⟩ := (FBox.new w F f).cells
  obtain ⟨W0, hW0⟩ : ∃ W0, w.alloc (.cells #[.slice F.L.Ak f.h.ks.length F.L.ck, .int .i64 f.h.fl, .slice F.L.Ap f.h.ps.length F.L.cp, .slice F.L.Ab f.h.bs.length F.L.cb, .slice F.Ap f.pk.length F.cp, .int .i64 f.day, .int .i64 f.nb, .slice F.Aq f.q.length F.cq] 29) = W0 := ⟨_, rfl⟩
  rw [hW0] at hbw HB c0 c1 c2 c3 c4 c5 c6 c7
  have HBW := Lib.hid hbw
  have HW0 := Lib.hid hW0
  have HF := Lib.hid (hF.below hbw)
  clear hbw hW0 hF
  have HC := Lib.hid (rcheckF_any F f hn W0 HF.out)
  have HN := Lib.hid hn
  cases hv : validF f
  · rw [ckF_no hv] at HC
    have HQ := Lib.hid (show paidRet f = (0, 90) from numRF_no (askF_bad true hv).symm (by omega))
    clear hv hok hn
    obtain ⟨L, Ap, cp, Aq, cq⟩ := F
    go_enter Try.func53, Try.ntmps53
    go_upto_region 1 with (fail)
    have e := HW0.out
    rw [e]
    clear e

    go_wp2_with (go_at_call 48; refine HC.out.mono ?_; rintro e w1 ⟨rfl, hb1⟩; have B1 := Lib.hid hb1; clear hb1)
    go_ret2
    exact ⟨NumEnd.mk HQ.out, hb0to HBW.out B1.out⟩
  · rw [ckF_yes hv] at HC
    have hf := FOK.of hv
    obtain ⟨nb, hnb⟩ := Int.eq_ofNat_of_zero_le hf.n0
    have hnb4 : nb ≤ 4 := by have := hf.n1; omega
    have HNB := Lib.hid hnb
    have HQ0 := Lib.hid (show paidRet f = (paidTo f.q (rdF f) nb, 0) by unfold paidRet; rw [numRF_ok (askF_yes hv), hnb]; rfl)
    have HPL := Lib.hid (fun k => payV_le (rd := rdF f) hf.ql hf.pay k)
    have H92 := Lib.hid (fun (k : Int) W hW => paysOf_any F f HN.out hok hv k W hW)
    clear hv hok hn hf hnb
    obtain ⟨L, Ap, cp, Aq, cq⟩ := F
    go_enter Try.func53, Try.ntmps53
    go_upto_region 1 with (fail)
    have e := HW0.out
    rw [e]
    clear e

    go_wp2_with (go_at_call 48; refine HC.out.mono ?_; rintro e w1 ⟨rfl, hb1⟩; have B1 := Lib.hid hb1; clear hb1)
    clear c0 c1 c2 c3 c4 c5 c6 c7
    go_loopw [5, 6] (fun s i wr => ∃ (k : Nat) (x : Int), k ≤ nb ∧ i = .int .i64 k ∧ s = .int .i64 x ∧ 0 ≤ x ∧ x ≤ 792 * (k : Int) ∧ Hid (x = paidTo f.q (rdF f) k) ∧ Hid (Below W0.heap.size W0 wr)) (fun _ i _ => nb - (intOf i).toNat)
    case atStart => exact ⟨0, 0, Nat.zero_le _, rfl, rfl, by omega, by omega, Lib.hid rfl, B1⟩
    case round =>
      obtain ⟨k, x, hk, rfl, rfl, hx0, hx1, hx, hb⟩ := hrel
      obtain ⟨g0, g1, g2, g3, g4, g5, g6, g7⟩ := (HB.out.of (hb.out.block _ HB.out.lt)).cells
      by_cases hlt : k < nb
      · have hkd : decide ((k : Int) < f.nb) = true := decide_eq_true (by have := HNB.out; omega)
        have hp := HPL.out (k : Int)
        have H := Lib.hid (H92.out (k : Int))
        have HNX := Lib.hid (show paidTo f.q (rdF f) (k + 1) = paidTo f.q (rdF f) k + payV f.q (rdF f) k from rfl)
        generalize payV f.q (rdF f) (k : Int) = p at hp H HNX
        go_wp2_with (go_at_call 92; refine (H.out wr (HF.out.below hb.out)).mono ?_; rintro e w2 ⟨rfl, hb2⟩; have B2 := Lib.hid (hb0to hb.out hb2); clear hb2)
        go_roundw
        case rel => exact ⟨k + 1, x + p, by omega, by go_num, by go_num, by omega, by omega, Lib.hid (by rw [HNX.out, hx.out]), B2⟩
        case measure => simp [intOf]; omega
      · have hkd : decide ((k : Int) < f.nb) = false := decide_eq_false (by have := HNB.out; omega)
        obtain rfl : k = nb := by omega
        have HQ := Lib.hid (show paidRet f = (x, 0) by rw [HQ0.out, hx.out])
        go_wp2_with (fail)
        go_ret2
        exact ⟨NumEnd.mk HQ.out, hb0to HBW.out hb.out⟩

end Go.Proofs.Ytmconopnplgcfaa
