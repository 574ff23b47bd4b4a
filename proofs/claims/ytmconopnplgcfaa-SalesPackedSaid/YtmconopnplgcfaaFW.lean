import Derived.Test.YtmconopnplgcfaaGG
import Derived.Test.YtmconopnplgcfaaFV
namespace Go.Proofs.Ytmconopnplgcfaa
open Go.RowKit

/-! Far 59, packing 60. -/
def farF (f : Fair) : Bool := hugeF f || farB f.h
theorem farF_no {f : Fair} (h : farF f = false) : hugeF f = false ∧ (f.h.bs.length ^ f.pk.length ≤ 1000 ∨ validF f = false) := by
  unfold farF farB at h
  simp only [Bool.or_eq_false_iff] at h
  obtain ⟨h1, h2, h3⟩ := h
  refine ⟨h1, ?_⟩
  cases hv : validF f
  · exact .inr rfl
  · have hf := FOK.of hv
    rw [hf.h, Bool.true_and, decide_eq_false_iff_not] at h3
    refine .inl ?_
    rw [good_len hf.p]
    exact Nat.le_trans (Nat.pow_le_pow_left (Nat.le_succ _) _) (show (f.h.bs.length + 1) ^ f.h.ps.length ≤ 1000 by omega)
set_option maxRecDepth 100000 in
set_option maxHeartbeats 4000000 in
theorem farF_any (F : FL) (f : Fair) (w : World) (hF : FairAt w w.heap.size F f) : Calls Try.prog 59 #[F.enc f] w fun e w' => e = .returned (.bool (farF f)) ∧ Below w.heap.size w w' := by
  have hbw := al_below w (.cells #[.slice F.L.Ak f.h.ks.length F.L.ck, .int .i64 f.h.fl, .slice F.L.Ap f.h.ps.length F.L.cp, .slice F.L.Ab f.h.bs.length F.L.cb, .slice F.Ap f.pk.length F.cp, .int .i64 f.day, .int .i64 f.nb, .slice F.Aq f.q.length F.cq] 29)
  have HB := Lib.hid (FBox.new w F f)
  obtain ⟨c0, c1, c2, c3, c4, c5, c6, c7⟩ := (FBox.new w F f).cells
  obtain ⟨W0, hW0⟩ : ∃ W0, w.alloc (.cells #[.slice F.L.Ak f.h.ks.length F.L.ck, .int .i64 f.h.fl, .slice F.L.Ap f.h.ps.length F.L.cp, .slice F.L.Ab f.h.bs.length F.L.cb, .slice F.Ap f.pk.length F.cp, .int .i64 f.day, .int .i64 f.nb, .slice F.Aq f.q.length F.cq] 29) = W0 := ⟨_, rfl⟩
  rw [hW0] at hbw HB c0 c1 c2 c3 c4 c5 c6 c7
  have HBW := Lib.hid hbw
  have HW0 := Lib.hid hW0
  have HF := Lib.hid (hF.below hbw)
  clear hbw hW0 hF
  have H39 := Lib.hid (fun W hW => hugeF_any F f W hW)
  cases hh : hugeF f
  · rw [hh] at H39
    have H94 := Lib.hid (fun W hW => far_any F.L f.h W hW)
    have hq : farF f = farB f.h := by rw [farF, hh]; rfl
    rw [hq]
    generalize farB f.h = r at H94
    clear hh hq
    obtain ⟨L, Ap, cp, Aq, cq⟩ := F
    go_enter Try.func59, Try.ntmps59
    go_upto_region 1 with (fail)
    have e := HW0.out
    rw [e]
    clear e
    go_wp2_with (first
      | (go_at_call 39; refine (H39.out _ HF.out).mono ?_; rintro e w1 ⟨rfl, hb⟩; have B1 := Lib.hid hb; obtain ⟨r0, r1, r2, r3, r4, r5, r6, r7⟩ := (HB.out.of (hb.block _ HB.out.lt)).cells; clear hb)
      | (go_at_call 94; refine (H94.out w1 (HF.out.below B1.out).h).mono ?_; rintro e w2 ⟨rfl, hb⟩; have B2 := Lib.hid (hb0to B1.out hb); clear hb))
    go_ret
    exact ⟨rfl, hb0to HBW.out B2.out⟩
  · rw [hh] at H39
    have hq : farF f = true := by rw [farF, hh]; rfl
    rw [hq]
    clear hh hq
    obtain ⟨L, Ap, cp, Aq, cq⟩ := F
    go_enter Try.func59, Try.ntmps59
    go_upto_region 1 with (fail)
    have e := HW0.out
    rw [e]
    clear e
    go_wp2_with (go_at_call 39; refine (H39.out _ HF.out).mono ?_; rintro e w1 ⟨rfl, hb⟩; have B1 := Lib.hid hb; obtain ⟨r0, r1, r2, r3, r4, r5, r6, r7⟩ := (HB.out.of (hb.block _ HB.out.lt)).cells; clear hb)
    go_ret
    exact ⟨rfl, hb0to HBW.out B1.out⟩
def packB (f : Fair) (p : List Int) : Bool := decide (p.length ≤ 40) && goodB f.h p
set_option maxRecDepth 100000 in
set_option maxHeartbeats 4000000 in
theorem packB_any (F : FL) (f : Fair) (hv : HOK f.h) (p : List Int) (A : Option Addr) (c : Nat) (w : World) (hF : FairAt w w.heap.size F f) (hI : IntsAt w w.heap.size A p) : Calls Try.prog 60 #[F.enc f, .slice A p.length c] w fun e w' => e = .returned (.bool (packB f p)) ∧ Below w.heap.size w w' := by
  have hbw := al_below w (.cells #[.slice F.L.Ak f.h.ks.length F.L.ck, .int .i64 f.h.fl, .slice F.L.Ap f.h.ps.length F.L.cp, .slice F.L.Ab f.h.bs.length F.L.cb, .slice F.Ap f.pk.length F.cp, .int .i64 f.day, .int .i64 f.nb, .slice F.Aq f.q.length F.cq] 29)
  have HB := Lib.hid (FBox.new w F f)
  obtain ⟨c0, c1, c2, c3, c4, c5, c6, c7⟩ := (FBox.new w F f).cells
  obtain ⟨W0, hW0⟩ : ∃ W0, w.alloc (.cells #[.slice F.L.Ak f.h.ks.length F.L.ck, .int .i64 f.h.fl, .slice F.L.Ap f.h.ps.length F.L.cp, .slice F.L.Ab f.h.bs.length F.L.cb, .slice F.Ap f.pk.length F.cp, .int .i64 f.day, .int .i64 f.nb, .slice F.Aq f.q.length F.cq] 29) = W0 := ⟨_, rfl⟩
  rw [hW0] at hbw HB c0 c1 c2 c3 c4 c5 c6 c7
  have HBW := Lib.hid hbw
  have HW0 := Lib.hid hW0
  have HF := Lib.hid (hF.below hbw)
  clear hbw hW0 hF
  by_cases hl : p.length ≤ 40
  · have H88 := Lib.hid (isPacking_any F.L f.h hv p (by omega) A c W0 HF.out.h (ints_later hI HBW.out))
    have hq : packB f p = goodB f.h p := by rw [packB, decide_eq_true hl, Bool.true_and]
    rw [hq]
    generalize goodB f.h p = r at H88
    have hd : decide ((p.length : Int) ≤ 40) = true := decide_eq_true (by omega)
    clear hq hI hv
    obtain ⟨L, Ap, cp, Aq, cq⟩ := F
    go_enter Try.func60, Try.ntmps60
    go_upto_region 1 with (fail)
    have e := HW0.out
    rw [e]
    clear e
    go_wp2_with (go_at_call 88; refine H88.out.mono ?_; rintro e w2 ⟨rfl, hb⟩; have B2 := Lib.hid hb; clear hb)
    go_ret
    exact ⟨rfl, hb0to HBW.out B2.out⟩
  · have hq : packB f p = false := by rw [packB, decide_eq_false hl, Bool.false_and]
    rw [hq]
    have hd : decide ((p.length : Int) ≤ 40) = false := decide_eq_false (by omega)
    clear hq hI hv
    obtain ⟨L, Ap, cp, Aq, cq⟩ := F
    go_enter Try.func60, Try.ntmps60
    go_upto_region 1 with (fail)
    have e := HW0.out
    rw [e]
    clear e
    go_wp2_with (fail)
    go_ret
    exact ⟨rfl, HBW.out⟩
theorem bestP_mem {f : Fair} : ∀ (l : List (List Int)) (st : List Int × Int), (bestP f st l).1 = st.1 ∨ (bestP f st l).1 ∈ l
  | [], st => .inl rfl
  | p :: l, st => by
    have h : bestP f st (p :: l) = bestP f (stepP f st p) l := rfl
    rw [h]
    rcases bestP_mem l (stepP f st p) with e | e
    · rw [e]
      unfold stepP
      split
      · exact .inr (List.mem_cons_self)
      · exact .inl rfl
    · exact .inr (List.mem_cons_of_mem _ e)
theorem repL_len {f : Fair} (hn : FN f) : (repL f).length ≤ 1000 := by
  rcases bestP_mem (f := f) (packsF f f.pk.length []) ([], -1) with e | e
  · unfold repL; rw [e]; simp
  · obtain ⟨t, h1, h2, -, -⟩ := mem_packsF.1 e
    rw [List.nil_append] at h1
    unfold repL
    rw [h1, h2]
    exact hn.p
/-! SalesRepack. -/
set_option maxRecDepth 100000 in
set_option maxHeartbeats 4000000 in
theorem repack_law (F : FL) (f : Fair) (w : World) (hok : FLOK F f) (hF : FairAt w w.heap.size F f) : Calls Try.prog 15 #[F.enc f] w fun e w' => e = .returned (.bool true) ∧ Below w.heap.size w w' := by
  have hbw := al_below w (.cells #[.slice F.L.Ak f.h.ks.length F.L.ck, .int .i64 f.h.fl, .slice F.L.Ap f.h.ps.length F.L.cp, .slice F.L.Ab f.h.bs.length F.L.cb, .slice F.Ap f.pk.length F.cp, .int .i64 f.day, .int .i64 f.nb, .slice F.Aq f.q.length F.cq] 29)
  have HB := Lib.hid (FBox.new w F f)
  obtain ⟨c0, c1, c2, c3, c4, c5, c6, c7⟩ := (FBox.new w F f).cells
  obtain ⟨W0, hW0⟩ : ∃ W0, w.alloc (.cells #[.slice F.L.Ak f.h.ks.length F.L.ck, .int .i64 f.h.fl, .slice F.L.Ap f.h.ps.length F.L.cp, .slice F.L.Ab f.h.bs.length F.L.cb, .slice F.Ap f.pk.length F.cp, .int .i64 f.day, .int .i64 f.nb, .slice F.Aq f.q.length F.cq] 29) = W0 := ⟨_, rfl⟩
  rw [hW0] at hbw HB c0 c1 c2 c3 c4 c5 c6 c7
  have HBW := Lib.hid hbw
  have HW0 := Lib.hid hW0
  have HF := Lib.hid (hF.below hbw)
  clear hbw hW0 hF
  have H59 := Lib.hid (fun W hW => farF_any F f W hW)
  cases hh : farF f
  · rw [hh] at H59
    have hcn := (farF_no hh).2
    have hn := hugeF_fn (farF_no hh).1
    have H33 := Lib.hid (fun W hW => copy_line F f hn hok W hW)
    have H46 := Lib.hid (fun G1 G2 W h1 h2 => sameF_is G1 G2 f hn W h1 h2)
    have H61 := Lib.hid (fun G W hW => Repack_any G f hn hcn W hW)
    have H63 := Lib.hid (fun W hW => rRepack_any F f hn hok hcn W hW)
    have hrl : (repRet f).1.length ≤ 1000 := by
      unfold repRet listRF
      split
      · exact repL_len hn
      · simp
    obtain ⟨rl, e1, hq1⟩ : ∃ m e, repRet f = (m, e) := ⟨_, _, rfl⟩
    rw [hq1] at H61 H63 hrl
    have HRL := Lib.hid hrl
    clear hq1 hrl hcn
    clear hok hh hn
    obtain ⟨L, Ap, cp, Aq, cq⟩ := F
    go_enter Try.func15, Try.ntmps15
    go_upto_region 1 with (fail)
    have e := HW0.out
    rw [e]
    clear e

    go_upto_region 4 with (first
      | (go_at_call 59; refine (H59.out _ HF.out).mono ?_; rintro e w1 ⟨rfl, hb⟩; have B1 := Lib.hid hb; obtain ⟨r0, r1, r2, r3, r4, r5, r6, r7⟩ := (HB.out.of (hb.block _ HB.out.lt)).cells; clear hb)
      | (go_at_call 33; refine (H33.out w1 (HF.out.below B1.out)).mono ?_; rintro e w2 ⟨⟨⟨⟨k1, k2, k3, k4, k5, k6⟩, k7, k8, k9, k10⟩, rfl, hcf, hq⟩, hb⟩; have B2 := Lib.hid (hb0to B1.out hb); have HC2 := Lib.hid (CopRet.fair hcf hq).1; clear hb hcf hq))
    have hbn := al_below w2 (.cells #[.slice k1 f.h.ks.length k2, .int .i64 f.h.fl, .slice k3 f.h.ps.length k4, .slice k5 f.h.bs.length k6, .slice k7 f.pk.length k8, .int .i64 f.day, .int .i64 f.nb, .slice k9 f.q.length k10] 29)
    have hb4 := hb0to B2.out hbn
    have hC4 : CIn (w2.alloc (.cells #[.slice k1 f.h.ks.length k2, .int .i64 f.h.fl, .slice k3 f.h.ps.length k4, .slice k5 f.h.bs.length k6, .slice k7 f.pk.length k8, .int .i64 f.day, .int .i64 f.nb, .slice k9 f.q.length k10] 29)) w.heap.size w2.heap.size ⟨L, Ap, cp, Aq, cq⟩ ⟨⟨k1, k2, k3, k4, k5, k6⟩, k7, k8, k9, k10⟩ f := ⟨HF.out.below hb4, HB.out.of (hb4.block _ HB.out.lt), HC2.out.below hbn, FBox.new w2 ⟨⟨k1, k2, k3, k4, k5, k6⟩, k7, k8, k9, k10⟩ f⟩
    obtain ⟨W4, hW4⟩ : ∃ W, w2.alloc (.cells #[.slice k1 f.h.ks.length k2, .int .i64 f.h.fl, .slice k3 f.h.ps.length k4, .slice k5 f.h.bs.length k6, .slice k7 f.pk.length k8, .int .i64 f.day, .int .i64 f.nb, .slice k9 f.q.length k10] 29) = W := ⟨_, rfl⟩
    rw [hW4] at hC4 hb4 ⊢
    have M := Lib.hid hC4
    have B := Lib.hid hb4
    clear hW4 hbn hC4 hb4 c0 c1 c2 c3 c4 c5 c6 c7 r0 r1 r2 r3 r4 r5 r6 r7
    obtain ⟨r0, r1, r2, r3, r4, r5, r6, r7⟩ := M.out.x.cells; obtain ⟨q0, q1, q2, q3, q4, q5, q6, q7⟩ := M.out.y.cells
    go_wp2_with (first
      | (go_at_call 61; refine (H61.out ⟨⟨k1, k2, k3, k4, k5, k6⟩, k7, k8, k9, k10⟩ _ M.out.O).mono ?_; rintro e wn ⟨⟨A7, c7, rfl, _, hv7⟩, hb⟩; have MN := Lib.hid (M.out.next hb); have BN := Lib.hid (hb0to B.out hb); have M := MN; have B := BN; clear MN BN; have V := Lib.hid hv7.at_; clear hv7; obtain ⟨r0, r1, r2, r3, r4, r5, r6, r7⟩ := M.out.x.cells; obtain ⟨q0, q1, q2, q3, q4, q5, q6, q7⟩ := M.out.y.cells; clear hb)
      | (go_at_call 63; refine (H63.out _ M.out.H).mono ?_; rintro e wn ⟨⟨A8, c8, rfl, _, hv8⟩, hb⟩; have MN := Lib.hid (M.out.next hb); have BN := Lib.hid (hb0to B.out hb); have M := MN; have B := BN; clear MN BN; have U := Lib.hid hv8.at_; have VN := Lib.hid (ints_later V.out hb); have V := VN; clear hv8 VN; obtain ⟨r0, r1, r2, r3, r4, r5, r6, r7⟩ := M.out.x.cells; obtain ⟨q0, q1, q2, q3, q4, q5, q6, q7⟩ := M.out.y.cells; clear hb)
      | (go_at_call 38; refine (sameInts_is A7 A8 c7 c8 rl HRL.out _ V.out U.out).mono ?_; rintro e wn ⟨rfl, hb⟩; have MN := Lib.hid (M.out.next hb); have BN := Lib.hid (hb0to B.out hb); have M := MN; have B := BN; clear MN BN; skip; obtain ⟨r0, r1, r2, r3, r4, r5, r6, r7⟩ := M.out.x.cells; obtain ⟨q0, q1, q2, q3, q4, q5, q6, q7⟩ := M.out.y.cells; clear hb)
      | (go_at_call 46; refine (H46.out ⟨⟨k1, k2, k3, k4, k5, k6⟩, k7, k8, k9, k10⟩ ⟨L, Ap, cp, Aq, cq⟩ _ M.out.O M.out.H).mono ?_; rintro e wn ⟨rfl, hb⟩; have MN := Lib.hid (M.out.next hb); have BN := Lib.hid (hb0to B.out hb); have M := MN; have B := BN; clear MN BN; skip; obtain ⟨r0, r1, r2, r3, r4, r5, r6, r7⟩ := M.out.x.cells; obtain ⟨q0, q1, q2, q3, q4, q5, q6, q7⟩ := M.out.y.cells; clear hb)
      | (go_at_call 19; refine (works_any _).mono ?_; rintro e wn ⟨rfl, hb⟩; have MN := Lib.hid (M.out.next hb); have BN := Lib.hid (hb0to B.out hb); have M := MN; have B := BN; clear MN BN; skip; obtain ⟨r0, r1, r2, r3, r4, r5, r6, r7⟩ := M.out.x.cells; obtain ⟨q0, q1, q2, q3, q4, q5, q6, q7⟩ := M.out.y.cells; clear hb))
    go_ret
    exact ⟨rfl, hb0to HBW.out B.out⟩
  · rw [hh] at H59
    clear hok hh
    obtain ⟨L, Ap, cp, Aq, cq⟩ := F
    go_enter Try.func15, Try.ntmps15
    go_upto_region 1 with (fail)
    have e := HW0.out
    rw [e]
    clear e

    go_wp2_with (first
      | (go_at_call 59; refine (H59.out _ HF.out).mono ?_; rintro e w1 ⟨rfl, hb⟩; have B1 := Lib.hid hb; obtain ⟨r0, r1, r2, r3, r4, r5, r6, r7⟩ := (HB.out.of (hb.block _ HB.out.lt)).cells; clear hb)
      | (go_at_call 19; refine (works_any _).mono ?_; rintro e w9 ⟨rfl, hb⟩; have B9 := Lib.hid (hb0to B1.out hb); clear hb))
    go_ret
    exact ⟨rfl, hb0to HBW.out B9.out⟩

end Go.Proofs.Ytmconopnplgcfaa
