import Derived.Test.YtmconopnplgcfaaGG
import Derived.Test.YtmconopnplgcfaaRZ
import Derived.Test.YtmconopnplgcfaaRV
namespace Go.Proofs.Ytmconopnplgcfaa
open Go.RowKit

/-! SalesPays. -/
set_option maxRecDepth 100000 in
set_option maxHeartbeats 4000000 in
theorem paysL_law (F : FL) (f : Fair) (a d : Int) (w : World) (hok : FLOK F f) (hF : FairAt w w.heap.size F f) : Calls Try.prog 12 #[F.enc f, .int .i64 a, .int .i64 d] w fun e w' => e = .returned (.bool true) ∧ Below w.heap.size w w' := by
  have hbw := al_below w (.cells #[.slice F.L.Ak f.h.ks.length F.L.ck, .int .i64 f.h.fl, .slice F.L.Ap f.h.ps.length F.L.cp, .slice F.L.Ab f.h.bs.length F.L.cb, .slice F.Ap f.pk.length F.cp, .int .i64 f.day, .int .i64 f.nb, .slice F.Aq f.q.length F.cq] 29)
  have HB := Lib.hid (FBox.new w F f)
  obtain ⟨c0, c1, c2, c3, c4, c5, c6, c7⟩ := (FBox.new w F f).cells
  obtain ⟨W0, hW0⟩ : ∃ W0, w.alloc (.cells #[.slice F.L.Ak f.h.ks.length F.L.ck, .int .i64 f.h.fl, .slice F.L.Ap f.h.ps.length F.L.cp, .slice F.L.Ab f.h.bs.length F.L.cb, .slice F.Ap f.pk.length F.cp, .int .i64 f.day, .int .i64 f.nb, .slice F.Aq f.q.length F.cq] 29) = W0 := ⟨_, rfl⟩
  rw [hW0] at hbw HB c0 c1 c2 c3 c4 c5 c6 c7
  have HBW := Lib.hid hbw
  have HW0 := Lib.hid hW0
  have HF := Lib.hid (hF.below hbw)
  clear hbw hW0 hF
  have H39 := Lib.hid (fun W hW => hugeF_any F f W hW)
  cases hh : hugeF f
  · rw [hh] at H39
    have hn := hugeF_fn hh
    have H33 := Lib.hid (fun W hW => copy_line F f hn hok W hW)
    have H46 := Lib.hid (fun G1 G2 W h1 h2 => sameF_is G1 G2 f hn W h1 h2)
    have H23 := Lib.hid (fun G W hW => Pays_any G f hn a W hW)
    have H52 := Lib.hid (fun W hW => rPays_any F f hn hok a W hW)
    have H32 := Lib.hid (fun G W hW => Paid_any G f hn W hW)
    have H53 := Lib.hid (fun W hW => rPaid_any F f hn hok W hW)
    have H30 := Lib.hid (fun G W hW => On_any G f hn d W hW)
    have H54 := Lib.hid (fun W hW => rOn_any F f hn hok d W hW)
    have H31 := Lib.hid (fun G W hW => When_any G f hn W hW)
    have H55 := Lib.hid (fun W hW => rWhen_any F f hn hok W hW)
    obtain ⟨m1, e1, hq1⟩ : ∃ m e, payRet f a = (m, e) := ⟨_, _, rfl⟩
    obtain ⟨m2, e2, hq2⟩ : ∃ m e, paidRet f = (m, e) := ⟨_, _, rfl⟩
    obtain ⟨m3, e3, hq3⟩ : ∃ m e, onRet f d = (m, e) := ⟨_, _, rfl⟩
    obtain ⟨m4, e4, hq4⟩ : ∃ m e, whenRet f = (m, e) := ⟨_, _, rfl⟩
    rw [hq1] at H23 H52
    rw [hq2] at H32 H53
    rw [hq3] at H30 H54
    rw [hq4] at H31 H55
    clear hq1 hq2 hq3 hq4
    clear hok hh hn
    obtain ⟨L, Ap, cp, Aq, cq⟩ := F
    go_enter Try.func12, Try.ntmps12
    go_upto_region 1 with (fail)
    have e := HW0.out
    rw [e]
    clear e

    go_upto_region 4 with (first
      | (go_at_call 39; refine (H39.out _ HF.out).mono ?_; rintro e w1 ⟨rfl, hb⟩; have B1 := Lib.hid hb; obtain ⟨r0, r1, r2, r3, r4, r5, r6, r7⟩ := (HB.out.of (hb.block _ HB.out.lt)).cells; clear hb)
      | (go_at_call 33; refine (H33.out w1 (HF.out.below B1.out)).mono ?_; rintro e w2 ⟨⟨⟨⟨k1, k2, k3, k4, k5, k6⟩, k7, k8, k9, k10⟩, rfl, hcf, hq⟩, hb⟩; have B2 := Lib.hid (hb0to B1.out hb); have HC2 := Lib.hid (CopRet.fair hcf hq).1; clear hb hcf hq))
    have hbn := al_below w2 (.cells #[.slice k1 f.h.ks.length k2, .int .i64 f.h.fl, .slice k3 f.h.ps.length k4, .slice k5 f.h.bs.length k6, .slice k7 f.pk.length k8, .int .i64 f.day, .int .i64 f.nb, .slice k9 f.q.length k10] 29)
    have hb4 := hb0to B2.out hbn
    have hC4 : CIn (w2.alloc (.cells #[.slice k1 f.h.ks.length k2, .int .i64 f.h.fl, .slice k3 f.h.ps.length k4, .slice k5 f.h.bs.length k6, .slice k7 f.pk.length k8, .int .i64 f.day, .int .i64 f.nb, .slice k9 f.q.length k10] 29)) w.heap.size w2.heap.size ⟨L, Ap, cp, Aq, cq⟩ ⟨⟨k1, k2, k3, k4, k5, k6⟩, k7, k8, k9, k10⟩ f := ⟨HF.out.below hb4, HB.out.of (hb4.block _ HB.out.lt), HC2.out.below hbn, FBox.new w2 ⟨⟨k1, k2, k3, k4, k5, k6⟩, k7, k8, k9, k10⟩ f⟩
    obtain ⟨W4, hW4⟩ : ∃ W, w2.alloc (.cells #[.slice k1 f.h.ks.length k2, .int .i64 f.h.fl, .slice k3 f.h.ps.length k4, .slice k5 f.h.bs.length k6, .slice k7 f.pk.length k8, .int .i64 f.day, .int .i64 f.nb, .slice k9 f.q.length k10] 29) = W := ⟨_, rfl⟩
    rw [hW4] at hC4 hb4 ⊢
    have M := Lib.hid hC4
    have B := Lib.hid hb4
    clear hW4 hbn hC4 hb4 c0 c1 c2 c3 c4 c5 c6 c7 r0 r1 r2 r3 r4 r5 r6 r7
    obtain ⟨r0, r1, r2, r3, r4, r5, r6, r7⟩ := M.out.x.cells; obtain ⟨q0, q1, q2, q3, q4, q5, q6, q7⟩ := M.out.y.cells
    go_wp2_with (first
      | (go_at_call 23; refine (H23.out ⟨⟨k1, k2, k3, k4, k5, k6⟩, k7, k8, k9, k10⟩ _ M.out.O).mono ?_; rintro e wn ⟨rfl, hb⟩; have MN := Lib.hid (M.out.next hb); have BN := Lib.hid (hb0to B.out hb); have M := MN; have B := BN; clear MN BN; skip; obtain ⟨r0, r1, r2, r3, r4, r5, r6, r7⟩ := M.out.x.cells; obtain ⟨q0, q1, q2, q3, q4, q5, q6, q7⟩ := M.out.y.cells; clear hb)
      | (go_at_call 52; refine (H52.out _ M.out.H).mono ?_; rintro e wn ⟨rfl, hb⟩; have MN := Lib.hid (M.out.next hb); have BN := Lib.hid (hb0to B.out hb); have M := MN; have B := BN; clear MN BN; skip; obtain ⟨r0, r1, r2, r3, r4, r5, r6, r7⟩ := M.out.x.cells; obtain ⟨q0, q1, q2, q3, q4, q5, q6, q7⟩ := M.out.y.cells; clear hb)
      | (go_at_call 32; refine (H32.out ⟨⟨k1, k2, k3, k4, k5, k6⟩, k7, k8, k9, k10⟩ _ M.out.O).mono ?_; rintro e wn ⟨rfl, hb⟩; have MN := Lib.hid (M.out.next hb); have BN := Lib.hid (hb0to B.out hb); have M := MN; have B := BN; clear MN BN; skip; obtain ⟨r0, r1, r2, r3, r4, r5, r6, r7⟩ := M.out.x.cells; obtain ⟨q0, q1, q2, q3, q4, q5, q6, q7⟩ := M.out.y.cells; clear hb)
      | (go_at_call 53; refine (H53.out _ M.out.H).mono ?_; rintro e wn ⟨rfl, hb⟩; have MN := Lib.hid (M.out.next hb); have BN := Lib.hid (hb0to B.out hb); have M := MN; have B := BN; clear MN BN; skip; obtain ⟨r0, r1, r2, r3, r4, r5, r6, r7⟩ := M.out.x.cells; obtain ⟨q0, q1, q2, q3, q4, q5, q6, q7⟩ := M.out.y.cells; clear hb)
      | (go_at_call 30; refine (H30.out ⟨⟨k1, k2, k3, k4, k5, k6⟩, k7, k8, k9, k10⟩ _ M.out.O).mono ?_; rintro e wn ⟨rfl, hb⟩; have MN := Lib.hid (M.out.next hb); have BN := Lib.hid (hb0to B.out hb); have M := MN; have B := BN; clear MN BN; skip; obtain ⟨r0, r1, r2, r3, r4, r5, r6, r7⟩ := M.out.x.cells; obtain ⟨q0, q1, q2, q3, q4, q5, q6, q7⟩ := M.out.y.cells; clear hb)
      | (go_at_call 54; refine (H54.out _ M.out.H).mono ?_; rintro e wn ⟨rfl, hb⟩; have MN := Lib.hid (M.out.next hb); have BN := Lib.hid (hb0to B.out hb); have M := MN; have B := BN; clear MN BN; skip; obtain ⟨r0, r1, r2, r3, r4, r5, r6, r7⟩ := M.out.x.cells; obtain ⟨q0, q1, q2, q3, q4, q5, q6, q7⟩ := M.out.y.cells; clear hb)
      | (go_at_call 31; refine (H31.out ⟨⟨k1, k2, k3, k4, k5, k6⟩, k7, k8, k9, k10⟩ _ M.out.O).mono ?_; rintro e wn ⟨rfl, hb⟩; have MN := Lib.hid (M.out.next hb); have BN := Lib.hid (hb0to B.out hb); have M := MN; have B := BN; clear MN BN; skip; obtain ⟨r0, r1, r2, r3, r4, r5, r6, r7⟩ := M.out.x.cells; obtain ⟨q0, q1, q2, q3, q4, q5, q6, q7⟩ := M.out.y.cells; clear hb)
      | (go_at_call 55; refine (H55.out _ M.out.H).mono ?_; rintro e wn ⟨rfl, hb⟩; have MN := Lib.hid (M.out.next hb); have BN := Lib.hid (hb0to B.out hb); have M := MN; have B := BN; clear MN BN; skip; obtain ⟨r0, r1, r2, r3, r4, r5, r6, r7⟩ := M.out.x.cells; obtain ⟨q0, q1, q2, q3, q4, q5, q6, q7⟩ := M.out.y.cells; clear hb)
      | (go_at_call 46; refine (H46.out ⟨⟨k1, k2, k3, k4, k5, k6⟩, k7, k8, k9, k10⟩ ⟨L, Ap, cp, Aq, cq⟩ _ M.out.O M.out.H).mono ?_; rintro e wn ⟨rfl, hb⟩; have MN := Lib.hid (M.out.next hb); have BN := Lib.hid (hb0to B.out hb); have M := MN; have B := BN; clear MN BN; skip; obtain ⟨r0, r1, r2, r3, r4, r5, r6, r7⟩ := M.out.x.cells; obtain ⟨q0, q1, q2, q3, q4, q5, q6, q7⟩ := M.out.y.cells; clear hb)
      | (go_at_call 19; refine (works_any _).mono ?_; rintro e wn ⟨rfl, hb⟩; have MN := Lib.hid (M.out.next hb); have BN := Lib.hid (hb0to B.out hb); have M := MN; have B := BN; clear MN BN; skip; obtain ⟨r0, r1, r2, r3, r4, r5, r6, r7⟩ := M.out.x.cells; obtain ⟨q0, q1, q2, q3, q4, q5, q6, q7⟩ := M.out.y.cells; clear hb))
    go_ret
    exact ⟨rfl, hb0to HBW.out B.out⟩
  · rw [hh] at H39
    clear hok hh
    obtain ⟨L, Ap, cp, Aq, cq⟩ := F
    go_enter Try.func12, Try.ntmps12
    go_upto_region 1 with (fail)
    have e := HW0.out
    rw [e]
    clear e

    go_wp2_with (first
      | (go_at_call 39; refine (H39.out _ HF.out).mono ?_; rintro e w1 ⟨rfl, hb⟩; have B1 := Lib.hid hb; obtain ⟨r0, r1, r2, r3, r4, r5, r6, r7⟩ := (HB.out.of (hb.block _ HB.out.lt)).cells; clear hb)
      | (go_at_call 19; refine (works_any _).mono ?_; rintro e w9 ⟨rfl, hb⟩; have B9 := Lib.hid (hb0to B1.out hb); clear hb))
    go_ret
    exact ⟨rfl, hb0to HBW.out B9.out⟩

end Go.Proofs.Ytmconopnplgcfaa
