import Derived.Test.YtmconopnplgcfaaLS
namespace Go.Proofs.Ytmconopnplgcfaa
open Go.RowKit

/-! SalesGood. -/
/-- What a law that compares a fair with a copy keeps. -/
structure CIn (W : World) (b z : Nat) (F F' : FL) (f : Fair) : Prop where
  H : FairAt W W.heap.size F f
  x : FBox W b F f
  O : FairAt W W.heap.size F' f
  y : FBox W z F' f
theorem CIn.next {W W' : World} {b z : Nat} {F F' : FL} {f : Fair} (h : CIn W b z F F' f) (hb : Below W.heap.size W W') : CIn W' b z F F' f := ⟨h.H.below hb, h.x.of (hb.block _ h.x.lt), h.O.below hb, h.y.of (hb.block _ h.y.lt)⟩
structure GIn (W : World) (b z : Nat) (F F' : FL) (f : Fair) (A A3 : Option Addr) (l : List Int) : Prop where
  C : CIn W b z F F' f
  i : IntsAt W W.heap.size A l
  j : IntsAt W W.heap.size A3 l
theorem GIn.next {W W' : World} {b z : Nat} {F F' : FL} {f : Fair} {A A3 : Option Addr} {l : List Int} (h : GIn W b z F F' f A A3 l) (hb : Below W.heap.size W W') : GIn W' b z F F' f A A3 l := ⟨h.C.next hb, ints_later h.i hb, ints_later h.j hb⟩
set_option maxRecDepth 100000 in
set_option maxHeartbeats 4000000 in
theorem good_law (F : FL) (f : Fair) (A : Option Addr) (c : Nat) (l : List Int) (hA : A = none → c = 0 ∧ l = []) (w : World) (hok : FLOK F f) (hF : FairAt w w.heap.size F f) (hI : IntsAt w w.heap.size A l) : Calls Try.prog 11 #[F.enc f, .slice A l.length c] w fun e w' => e = .returned (.bool true) ∧ Below w.heap.size w w' := by
  have hbw := al_below w (.cells #[.slice F.L.Ak f.h.ks.length F.L.ck, .int .i64 f.h.fl, .slice F.L.Ap f.h.ps.length F.L.cp, .slice F.L.Ab f.h.bs.length F.L.cb, .slice F.Ap f.pk.length F.cp, .int .i64 f.day, .int .i64 f.nb, .slice F.Aq f.q.length F.cq] 29)
  have HB := Lib.hid (FBox.new w F f)
  obtain ⟨c0, c1, c2, c3, c4, c5, c6, c7⟩ := (FBox.new w F f).cells
  obtain ⟨W0, hW0⟩ : ∃ W0, w.alloc (.cells #[.slice F.L.Ak f.h.ks.length F.L.ck, .int .i64 f.h.fl, .slice F.L.Ap f.h.ps.length F.L.cp, .slice F.L.Ab f.h.bs.length F.L.cb, .slice F.Ap f.pk.length F.cp, .int .i64 f.day, .int .i64 f.nb, .slice F.Aq f.q.length F.cq] 29) = W0 := ⟨_, rfl⟩
  rw [hW0] at hbw HB c0 c1 c2 c3 c4 c5 c6 c7
  have HBW := Lib.hid hbw
  have HW0 := Lib.hid hW0
  have HF := Lib.hid (hF.below hbw)
  clear hbw hW0 hF
  have HIL := Lib.hid (ints_later hI HBW.out)
  have HA := Lib.hid hA
  have H39 := Lib.hid (fun W hW => hugeF_any F f W hW)
  have B0 := Lib.hid (Below.refl W0.heap.size W0)
  clear hI hA
  cases hh : hugeF f
  · rw [hh] at H39
    by_cases h40 : 40 < l.length
    · have d1 : decide ((40 : Int) < (l.length : Int)) = true := decide_eq_true (by omega)
      clear hok hh
      obtain ⟨L, Ap, cp, Aq, cq⟩ := F
      go_enter Try.func11, Try.ntmps11
      go_upto_region 1 with (fail)
      have e := HW0.out
      rw [e]
      clear e

      go_wp2_with (first
        | (go_at_call 39; refine (H39.out _ HF.out).mono ?_; rintro e w1 ⟨rfl, hb⟩; have B1 := Lib.hid hb; obtain ⟨r0, r1, r2, r3, r4, r5, r6, r7⟩ := (HB.out.of (hb.block _ HB.out.lt)).cells; clear hb)
        | (go_at_call 19; refine (works_any _).mono ?_; rintro e w9 ⟨rfl, hb⟩; have B9 := Lib.hid (hb0to B1.out hb); clear hb))
      go_ret
      exact ⟨rfl, hb0to HBW.out B9.out⟩
    · have d1 : decide ((40 : Int) < (l.length : Int)) = false := decide_eq_false (by omega)
      have hll : l.length ≤ 1000 := by omega
      have HLL := Lib.hid hll
      have hn := hugeF_fn hh
      have H33 := Lib.hid (fun W hW => copy_line F f hn hok W hW)
      have H47 := Lib.hid (fun G W hW => scheck_any G f hn W hW)
      have H48 := Lib.hid (fun G W hW => rcheckF_any G f hn W hW)
      have H29 := Lib.hid (fun G W hW => Ready_any G f hn W hW)
      have H49 := Lib.hid (fun G W hW => rReady_any G f hn W hW)
      have H50 := Lib.hid (fun G A c W hW hI => Good50_any G f hn l hll A c W hW hI)
      have H51 := Lib.hid (fun G W hW hI => rGood_any G f hn l hll A c W hW hI)
      have H46 := Lib.hid (fun G1 G2 W h1 h2 => sameF_is G1 G2 f hn W h1 h2)
      have hrl : (readyRet f).1.length ≤ 1000 := by
        unfold readyRet listRF
        split
        · exact Nat.le_trans rd_len hn.h.2.2
        · simp
      obtain ⟨rl, er, hq1⟩ : ∃ m e, readyRet f = (m, e) := ⟨_, _, rfl⟩
      obtain ⟨gb, eg, hq2⟩ : ∃ m e, goodRetF f l = (m, e) := ⟨_, _, rfl⟩
      rw [hq1] at H29 H49 hrl
      rw [hq2] at H50 H51
      have HRL := Lib.hid hrl
      generalize ckF f = ck at H47 H48
      clear hok hh hn hq1 hq2 h40 hrl
      obtain ⟨L, Ap, cp, Aq, cq⟩ := F
      go_enter Try.func11, Try.ntmps11
      go_upto_region 1 with (fail)
      have e := HW0.out
      rw [e]
      clear e

      go_upto_region 4 with (first
        | (go_at_call 39; refine (H39.out _ HF.out).mono ?_; rintro e w1 ⟨rfl, hb⟩; have B1 := Lib.hid hb; obtain ⟨r0, r1, r2, r3, r4, r5, r6, r7⟩ := (HB.out.of (hb.block _ HB.out.lt)).cells; clear hb)
        | (go_at_call 33; refine (H33.out w1 (HF.out.below B1.out)).mono ?_; rintro e w2 ⟨⟨⟨⟨k1, k2, k3, k4, k5, k6⟩, k7, k8, k9, k10⟩, rfl, hcf, hq⟩, hb⟩; have B2 := Lib.hid (hb0to B1.out hb); have HC2 := Lib.hid (CopRet.fair hcf hq).1; have hm2 := hb0to B2.out (al_below w2 (.cells #[] 3)); have IL2 := Lib.hid (ints_later HIL.out hm2); clear hb hcf hq hm2)
        | (refine wpl_copyI (by rfl) _ _ (by rfl) w2.heap.size _ [] (by rfl) (ints_made w2 w2.heap.size (Nat.le_refl _)) A c l HA.out (by rfl) IL2.out (by simp) HLL.out (by simp) ?_; intro v3 w3 h1 h2; have hb23 : Below w2.heap.size w2 w3 := (al_below w2 (.cells #[] 3)).trans h2; have B3 := Lib.hid (hb0to B2.out hb23); have HC3 := Lib.hid (HC2.out.below hb23); obtain ⟨A3, kc, rfl, -, -, hA3⟩ := (show Ints w3 w2.heap.size v3 l from h1).lay; have I3 := Lib.hid hA3.at_; clear h1 h2 hb23 hA3))
      have hbn := al_below w3 (.cells #[.slice k1 f.h.ks.length k2, .int .i64 f.h.fl, .slice k3 f.h.ps.length k4, .slice k5 f.h.bs.length k6, .slice k7 f.pk.length k8, .int .i64 f.day, .int .i64 f.nb, .slice k9 f.q.length k10] 29)
      have hC4 : CIn (w3.alloc (.cells #[.slice k1 f.h.ks.length k2, .int .i64 f.h.fl, .slice k3 f.h.ps.length k4, .slice k5 f.h.bs.length k6, .slice k7 f.pk.length k8, .int .i64 f.day, .int .i64 f.nb, .slice k9 f.q.length k10] 29)) w.heap.size w3.heap.size ⟨L, Ap, cp, Aq, cq⟩ ⟨⟨k1, k2, k3, k4, k5, k6⟩, k7, k8, k9, k10⟩ f := ⟨HF.out.below (hb0to B3.out hbn), HB.out.of ((hb0to B3.out hbn).block _ HB.out.lt), HC3.out.below hbn, FBox.new w3 ⟨⟨k1, k2, k3, k4, k5, k6⟩, k7, k8, k9, k10⟩ f⟩
      have hi4 := ints_later HIL.out (hb0to B3.out hbn)
      have hj4 := ints_later I3.out hbn
      have hb4 := hb0to B3.out hbn
      obtain ⟨W4, hW4⟩ : ∃ W, w3.alloc (.cells #[.slice k1 f.h.ks.length k2, .int .i64 f.h.fl, .slice k3 f.h.ps.length k4, .slice k5 f.h.bs.length k6, .slice k7 f.pk.length k8, .int .i64 f.day, .int .i64 f.nb, .slice k9 f.q.length k10] 29) = W := ⟨_, rfl⟩
      rw [hW4] at hC4 hi4 hj4 hb4 ⊢
      have M := Lib.hid (GIn.mk hC4 hi4 hj4)
      have B := Lib.hid hb4
      clear hW4 hbn hC4 hi4 hj4 hb4 c0 c1 c2 c3 c4 c5 c6 c7 r0 r1 r2 r3 r4 r5 r6 r7
      obtain ⟨r0, r1, r2, r3, r4, r5, r6, r7⟩ := M.out.C.x.cells; obtain ⟨q0, q1, q2, q3, q4, q5, q6, q7⟩ := M.out.C.y.cells
      have x0 := extB_cell r0
      have y0 := extB_cell q0
      have x1 := extB_cell r1
      have y1 := extB_cell q1
      have x2 := extB_cell r2
      have y2 := extB_cell q2
      have x3 := extB_cell r3
      have y3 := extB_cell q3
      have x4 := extB_cell r4
      have y4 := extB_cell q4
      have x5 := extB_cell r5
      have y5 := extB_cell q5
      have x6 := extB_cell r6
      have y6 := extB_cell q6
      have x7 := extB_cell r7
      have y7 := extB_cell q7
      have X47 := Lib.hid (fun z => H47.out ⟨⟨k1, k2, k3, k4, k5, k6⟩, k7, k8, k9, k10⟩ (extB W4 z) (M.out.next (extB_below W4 z)).C.O)
      have X48 := Lib.hid (fun z => H48.out ⟨L, Ap, cp, Aq, cq⟩ (extB W4 z) (M.out.next (extB_below W4 z)).C.H)
      refine wp_region_ext (by kernel_rfl) (by kernel_rfl) ?_
      repeat (go_big_quiet_step (first
        | (go_at_call 47; exact ext_call (X47.out _))
        | (go_at_call 48; exact ext_call (X48.out _))))
      refine wpQuiet_nil ?_
      rintro _ ⟨y, rfl⟩
      have M7 := Lib.hid (M.out.next (extB_below W4 y))
      have B7 := Lib.hid (hb0to B.out (extB_below W4 y))
      generalize extB W4 y = w7 at M7 B7 ⊢
      have M := M7
      have B := B7
      clear r0 r1 r2 r3 r4 r5 r6 r7 q0 q1 q2 q3 q4 q5 q6 q7
      clear x0 x1 x2 x3 x4 x5 x6 x7 y0 y1 y2 y3 y4 y5 y6 y7 X47 X48 H47 H48 M7 B7
      obtain ⟨r0, r1, r2, r3, r4, r5, r6, r7⟩ := M.out.C.x.cells; obtain ⟨q0, q1, q2, q3, q4, q5, q6, q7⟩ := M.out.C.y.cells
      go_wp2_with (first
        | (go_at_call 29; refine (H29.out ⟨⟨k1, k2, k3, k4, k5, k6⟩, k7, k8, k9, k10⟩ _ M.out.C.O).mono ?_; rintro e wn ⟨⟨v, rfl, hv⟩, hb⟩; have MN := Lib.hid (M.out.next hb); have BN := Lib.hid (hb0to B.out hb); have M := MN; have B := BN; clear MN BN; obtain ⟨A7, c7, rfl, -, -, hv7⟩ := ints_slice hv; have V := Lib.hid hv7; clear hv7 hv; obtain ⟨r0, r1, r2, r3, r4, r5, r6, r7⟩ := M.out.C.x.cells; obtain ⟨q0, q1, q2, q3, q4, q5, q6, q7⟩ := M.out.C.y.cells; clear hb)
        | (go_at_call 49; refine (H49.out ⟨L, Ap, cp, Aq, cq⟩ _ M.out.C.H).mono ?_; rintro e wn ⟨⟨v, rfl, hv⟩, hb⟩; have MN := Lib.hid (M.out.next hb); have BN := Lib.hid (hb0to B.out hb); have M := MN; have B := BN; clear MN BN; obtain ⟨A8, c8, rfl, -, -, hv8⟩ := ints_slice hv; have U := Lib.hid hv8; have VN := Lib.hid (ints_later V.out hb); have V := VN; have TK := Lib.hid True.intro; clear hv8 hv VN; obtain ⟨r0, r1, r2, r3, r4, r5, r6, r7⟩ := M.out.C.x.cells; obtain ⟨q0, q1, q2, q3, q4, q5, q6, q7⟩ := M.out.C.y.cells; clear hb)
        | (go_at_call 50; refine (H50.out ⟨⟨k1, k2, k3, k4, k5, k6⟩, k7, k8, k9, k10⟩ A3 kc _ M.out.C.O M.out.j).mono ?_; rintro e wn ⟨rfl, hb⟩; have MN := Lib.hid (M.out.next hb); have BN := Lib.hid (hb0to B.out hb); have M := MN; have B := BN; clear MN BN; have VN := Lib.hid (ints_later V.out hb); have V := VN; have UN := Lib.hid (ints_later U.out hb); have U := UN; clear VN UN; obtain ⟨r0, r1, r2, r3, r4, r5, r6, r7⟩ := M.out.C.x.cells; obtain ⟨q0, q1, q2, q3, q4, q5, q6, q7⟩ := M.out.C.y.cells; clear hb)
        | (go_at_call 51; refine (H51.out ⟨L, Ap, cp, Aq, cq⟩ _ M.out.C.H M.out.i).mono ?_; rintro e wn ⟨rfl, hb⟩; have MN := Lib.hid (M.out.next hb); have BN := Lib.hid (hb0to B.out hb); have M := MN; have B := BN; clear MN BN; have VN := Lib.hid (ints_later V.out hb); have V := VN; have UN := Lib.hid (ints_later U.out hb); have U := UN; clear VN UN; obtain ⟨r0, r1, r2, r3, r4, r5, r6, r7⟩ := M.out.C.x.cells; obtain ⟨q0, q1, q2, q3, q4, q5, q6, q7⟩ := M.out.C.y.cells; clear hb)
        | (go_at_call 46; refine (H46.out ⟨⟨k1, k2, k3, k4, k5, k6⟩, k7, k8, k9, k10⟩ ⟨L, Ap, cp, Aq, cq⟩ _ M.out.C.O M.out.C.H).mono ?_; rintro e wn ⟨rfl, hb⟩; have MN := Lib.hid (M.out.next hb); have BN := Lib.hid (hb0to B.out hb); have M := MN; have B := BN; clear MN BN; skip; obtain ⟨r0, r1, r2, r3, r4, r5, r6, r7⟩ := M.out.C.x.cells; obtain ⟨q0, q1, q2, q3, q4, q5, q6, q7⟩ := M.out.C.y.cells; clear TK; clear hb)
        | (have u9 := TK.out; clear u9; go_at_call 38; refine (sameInts_is A7 A8 c7 c8 rl HRL.out _ V.out U.out).mono ?_; rintro e wn ⟨rfl, hb⟩; have MN := Lib.hid (M.out.next hb); have BN := Lib.hid (hb0to B.out hb); have M := MN; have B := BN; clear MN BN; skip; obtain ⟨r0, r1, r2, r3, r4, r5, r6, r7⟩ := M.out.C.x.cells; obtain ⟨q0, q1, q2, q3, q4, q5, q6, q7⟩ := M.out.C.y.cells; clear hb)
        | (go_at_call 38; refine (sameInts_is A3 A kc c l HLL.out _ M.out.j M.out.i).mono ?_; rintro e wn ⟨rfl, hb⟩; have MN := Lib.hid (M.out.next hb); have BN := Lib.hid (hb0to B.out hb); have M := MN; have B := BN; clear MN BN; skip; obtain ⟨r0, r1, r2, r3, r4, r5, r6, r7⟩ := M.out.C.x.cells; obtain ⟨q0, q1, q2, q3, q4, q5, q6, q7⟩ := M.out.C.y.cells; clear hb)
        | (go_at_call 19; refine (works_any _).mono ?_; rintro e wn ⟨rfl, hb⟩; have MN := Lib.hid (M.out.next hb); have BN := Lib.hid (hb0to B.out hb); have M := MN; have B := BN; clear MN BN; skip; obtain ⟨r0, r1, r2, r3, r4, r5, r6, r7⟩ := M.out.C.x.cells; obtain ⟨q0, q1, q2, q3, q4, q5, q6, q7⟩ := M.out.C.y.cells; clear hb))
      go_ret
      exact ⟨rfl, hb0to HBW.out B.out⟩
  · rw [hh] at H39
    clear hok hh
    obtain ⟨L, Ap, cp, Aq, cq⟩ := F
    go_enter Try.func11, Try.ntmps11
    go_upto_region 1 with (fail)
    have e := HW0.out
    rw [e]
    clear e

    go_wp2_with (first
      | (go_at_call 39; refine (H39.out _ HF.out).mono ?_; rintro e w1 ⟨rfl, hb⟩; have B1 := Lib.hid hb; obtain ⟨r0, r1, r2, r3, r4, r5, r6, r7⟩ := (HB.out.of (hb.block _ HB.out.lt)).cells; clear hb)
      | (go_at_call 19; refine (works_any _).mono ?_; rintro e w9 ⟨rfl, hb⟩; have B9 := Lib.hid (hb0to B1.out hb); clear hb))
    go_ret
    exact ⟨rfl, hb0to HBW.out B9.out⟩

end Go.Proofs.Ytmconopnplgcfaa
