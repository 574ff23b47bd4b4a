import Derived.Test.YtgjpllmmpclgaaaNE
import Derived.Test.YtgjpllmmpclgaaaND
import Derived.Test.YtgjpllmmpclgaaaG11
import Derived.Test.YtgjpllmmpclgaaaN5
namespace Go.Proofs.Ytgjpllmmpclgaaa
open Go.RowKit

/-! LiftsSafe 15. -/
theorem eq75 (x y : Int) (w : World) : (binOp .eql 75 (.agg #[.int .i64 x, .int .i64 y]) (.agg #[.int .i64 x, .int .i64 y])).run Try.prog w = .ok (.bool true) w := by
  simp [go_sem]
/-- What LiftsSafe keeps. -/
structure DMem (w W : World) (L L2 : SL) (s : Sea) (z z2 : Nat) (A A2 : Option Addr) (l : List Int) : Prop where
  C : CMem w W L L2 s z z2
  i : IntsAt W W.heap.size A l
  j : IntsAt W W.heap.size A2 l
theorem DMem.next {w W W' : World} {L L2 : SL} {s : Sea} {z z2 : Nat} {A A2 : Option Addr} {l : List Int} (h : DMem w W L L2 s z z2 A A2 l) (hb : Below W.heap.size W W') : DMem w W' L L2 s z z2 A A2 l :=
  ⟨h.C.next hb, ints_later h.i hb, ints_later h.j hb⟩
def PairAt (W : World) (k : Nat) (x y : Int) : Prop := W.heap[k]? = some (.cells #[.int .i64 x, .int .i64 y] 75 (0, 0))
theorem PairAt.next {W W' : World} {k : Nat} {x y : Int} (h : PairAt W k x y) (hb : Below W.heap.size W W') : PairAt W' k x y := (hb.block _ (heap_lt h)).trans h
theorem PairAt.new (W : World) (x y : Int) : PairAt (W.alloc (.cells #[.int .i64 x, .int .i64 y] 75)) W.heap.size x y := World.alloc_heap_new W _
theorem PairAt.cells {W : World} {k : Nat} {x y : Int} (h : PairAt W k x y) : W.cell? ⟨k, 0, none⟩ = some (.int .i64 x) ∧ W.cell? ⟨k, 1, none⟩ = some (.int .i64 y) := ⟨cell_of_heap h rfl, cell_of_heap h rfl⟩
set_option maxRecDepth 100000 in
set_option maxHeartbeats 4000000 in
theorem safe_law (L : SL) (s : Sea) (hok : SLOK L s) (A : Option Addr) (cv : Nat) (c : List Int) (hA : A = none → cv = 0 ∧ c = []) (hcv : c.length ≤ cv) (w : World) (hH : SeaAt w w.heap.size L s) (hI : IntsAt w w.heap.size A c) : Calls Try.prog 15 #[L.enc s, .slice A c.length cv] w fun e w' => e = .returned (.bool true) ∧ Below w.heap.size w w' := by
  have hbw := al_below w (.cells #[.int .i64 s.wl, .int .i64 s.wh, .slice L.Ap s.ps.length L.cp, .slice L.Ab s.bs.length L.cb] 27)
  have HB := Lib.hid (SBox.new w L s)
  obtain ⟨c0, c1, c2, c3⟩ := (SBox.new w L s).cells
  obtain ⟨W0, hW0⟩ : ∃ W0, w.alloc (.cells #[.int .i64 s.wl, .int .i64 s.wh, .slice L.Ap s.ps.length L.cp, .slice L.Ab s.bs.length L.cb] 27) = W0 := ⟨_, rfl⟩
  rw [hW0] at hbw HB c0 c1 c2 c3
  have HBW := Lib.hid hbw
  have HW0 := Lib.hid hW0
  have HH := Lib.hid (hH.below hbw)
  have HI := Lib.hid (ints_later hI hbw)
  have HA := Lib.hid hA
  have HF := Lib.hid (fun W => far_any L s W)
  clear hbw hW0 hH hI hA
  cases hf : farB s
  · rw [hf] at HF
    by_cases h40 : 40 < c.length
    · have hd : decide ((40 : Int) < (c.length : Int)) = true := decide_eq_true (by omega)
      clear hf h40 hok hcv
      obtain ⟨Ap, cp, Ab, cb⟩ := L
      go_enter Try.func15, Try.ntmps15
      go_upto_region 1 with (fail)
      have e := HW0.out
      rw [e]
      clear e
      go_wp2_with (first
        | (go_at_call 40; refine (HF.out W0).mono ?_; rintro e w1 ⟨rfl, hb1⟩; obtain ⟨r0, r1, r2, r3⟩ := (HB.out.of (hb1.block _ HB.out.lt)).cells; have B1 := Lib.hid hb1; clear hb1)
        | (go_at_call 17; refine (works_any w1).mono ?_; rintro e w2 ⟨rfl, hb2⟩; have B2 := Lib.hid (hb0to B1.out hb2); clear hb2))
      go_ret
      exact ⟨rfl, hb0to HBW.out B2.out⟩
    · have hd : decide ((40 : Int) < (c.length : Int)) = false := decide_eq_false (by omega)
      have hfl := far_le hf
      have hll : c.length ≤ 1000 := by omega
      have HLL := Lib.hid hll
      have HC := Lib.hid (fun W hW => copy_any L s ⟨by omega, by omega⟩ hok W hW)
      have H26 := Lib.hid (fun L' Ax cx W hW hI => Safe_any L' s c Ax cx hll W hW hI)
      have H66 := Lib.hid (fun L' W hW hI => rsafe_any L' s c A cv hll hcv W hW hI)
      have H67 := Lib.hid (fun L' Ax cx W hW hI => Lifts_any L' s c Ax cx hll W hW hI)
      have H68 := Lib.hid (fun L' W hW hI => rLifts_any L' s c A cv hll hcv W hW hI)
      have H49 := Lib.hid (fun L' Ax cx W hW hI => First_any L' s c Ax cx hll W hW hI)
      have H69 := Lib.hid (fun L' W hW hI => rFirst_any L' s c A cv hll hcv W hW hI)
      have H62 := Lib.hid (fun L' Ax cx W hW hI => Swap_any L' s c Ax cx hll W hW hI)
      have H70 := Lib.hid (fun L' W hW hI => rswap_any L' s c A cv hll hcv W hW hI)
      have HS44 := Lib.hid (fun L1 L2 W h1 h2 => same_is L1 L2 s ⟨by omega, by omega⟩ W h1 h2)
      obtain ⟨m1, e1, hq⟩ : ∃ m er, safeRet s c = (m, er) := ⟨_, _, rfl⟩
      rw [hq] at H26 H66
      obtain ⟨m2, e2, hq2⟩ : ∃ m er, liftsRet s c = (m, er) := ⟨_, _, rfl⟩
      rw [hq2] at H67 H68
      obtain ⟨m3, e3, hq3⟩ : ∃ m er, firstRet s c = (m, er) := ⟨_, _, rfl⟩
      rw [hq3] at H49 H69
      clear hf h40 hok hfl hq hq2 hq3 hcv
      obtain ⟨Ap, cp, Ab, cb⟩ := L
      go_enter Try.func15, Try.ntmps15
      go_upto_region 1 with (fail)
      have e := HW0.out
      rw [e]
      clear e
      go_upto_region 3 with (go_at_call 40; refine (HF.out W0).mono ?_; rintro e w1 ⟨rfl, hb1⟩; obtain ⟨r0, r1, r2, r3⟩ := (HB.out.of (hb1.block _ HB.out.lt)).cells; have B1 := Lib.hid hb1; clear hb1)
      go_upto_region 4 with (first
        | (go_at_call 37; refine (HC.out w1 (HH.out.below B1.out)).mono ?_; rintro e w2 ⟨⟨⟨Bp, dp, Bb, db⟩, rfl, hC⟩, hb⟩; have B2 := Lib.hid (hb0to B1.out hb); have C2 := Lib.hid hC; have hm2 := hb0to B2.out (al_below w2 (.cells #[] 3)); have IL2 := Lib.hid (ints_later HI.out hm2); clear hb hC hm2)
        | (refine wpl_copyI (by rfl) _ _ (by rfl) w2.heap.size _ [] (by rfl) (ints_made w2 w2.heap.size (Nat.le_refl _)) A cv c HA.out (by rfl) IL2.out (by simp) HLL.out (by simp) ?_; intro v3 w3 h1 h2; have hb23 : Below w2.heap.size w2 w3 := (al_below w2 (.cells #[] 3)).trans h2; have B3 := Lib.hid (hb0to B2.out hb23); have C3 := Lib.hid (C2.out.below hb23); obtain ⟨A3, kc, rfl, -, -, hA3⟩ := (show Ints w3 w2.heap.size v3 c from h1).lay; have I3 := Lib.hid hA3.at_; clear h1 h2 hb23 hA3))
      have hC4 := CMem.new HBW.out HH.out HB.out B3.out C3.out
      have hbn := al_below w3 (.cells #[.int .i64 s.wl, .int .i64 s.wh, .slice Bp s.ps.length dp, .slice Bb s.bs.length db] 27)
      have hi4 := ints_later HI.out (hb0to B3.out hbn)
      have hj4 := ints_later I3.out hbn
      simp only at hC4
      obtain ⟨W4, hW4⟩ : ∃ W, w3.alloc (.cells #[.int .i64 s.wl, .int .i64 s.wh, .slice Bp s.ps.length dp, .slice Bb s.bs.length db] 27) = W := ⟨_, rfl⟩
      rw [hW4] at hC4 hbn hi4 hj4 ⊢
      have M4 := Lib.hid (DMem.mk hC4 hi4 hj4)
      clear hW4 c0 c1 c2 c3 r0 r1 r2 r3 hC4 hbn hi4 hj4
      obtain ⟨⟨t0, t1, t2, t3⟩, ⟨t4, t5, t6, t7⟩⟩ := M4.out.C.cells
      go_upto_region 10 with (first
        | (go_at_call 26; refine (H26.out ⟨Bp, dp, Bb, db⟩ A3 kc W4 M4.out.C.O M4.out.j).mono ?_; rintro e w5 ⟨rfl, hb⟩; have M5 := Lib.hid (M4.out.next hb); have HB_w5 := Lib.hid hb; obtain ⟨⟨u0, u1, u2, u3⟩, ⟨u4, u5, u6, u7⟩⟩ := M5.out.C.cells; clear hb)
        | (go_at_call 66; refine (H66.out ⟨Ap, cp, Ab, cb⟩ w5 M5.out.C.H M5.out.i).mono ?_; rintro e w6 ⟨rfl, hb⟩; have M6 := Lib.hid (M5.out.next hb); have HB_w6 := Lib.hid hb; obtain ⟨⟨v0, v1, v2, v3⟩, ⟨v4, v5, v6, v7⟩⟩ := M6.out.C.cells; clear hb)
        | (go_at_call 67; refine (H67.out ⟨Bp, dp, Bb, db⟩ A3 kc w6 M6.out.C.O M6.out.j).mono ?_; rintro e w7 ⟨rfl, hb⟩; have M7 := Lib.hid (M6.out.next hb); have HB_w7 := Lib.hid hb; obtain ⟨⟨x0, x1, x2, x3⟩, ⟨x4, x5, x6, x7⟩⟩ := M7.out.C.cells; clear hb)
        | (go_at_call 68; refine (H68.out ⟨Ap, cp, Ab, cb⟩ w7 M7.out.C.H M7.out.i).mono ?_; rintro e w8 ⟨rfl, hb⟩; have M8 := Lib.hid (M7.out.next hb); have HB_w8 := Lib.hid hb; obtain ⟨⟨y0, y1, y2, y3⟩, ⟨y4, y5, y6, y7⟩⟩ := M8.out.C.cells; clear hb))
      clear t0 t1 t2 t3 t4 t5 t6 t7 u0 u1 u2 u3 u4 u5 u6 u7 v0 v1 v2 v3 v4 v5 v6 v7 x0 x1 x2 x3 x4 x5 x6 x7
      go_upto_region 13 with (first
        | (go_at_call 49; refine (H49.out ⟨Bp, dp, Bb, db⟩ A3 kc w8 M8.out.C.O M8.out.j).mono ?_; rintro e w9 ⟨rfl, hb⟩; have M9 := Lib.hid (M8.out.next hb); have HB_w9 := Lib.hid hb; obtain ⟨⟨t0, t1, t2, t3⟩, ⟨t4, t5, t6, t7⟩⟩ := M9.out.C.cells; clear hb)
        | (go_at_call 69; refine (H69.out ⟨Ap, cp, Ab, cb⟩ w9 M9.out.C.H M9.out.i).mono ?_; rintro e wa ⟨rfl, hb⟩; have Ma := Lib.hid (M9.out.next hb); have HB_wa := Lib.hid hb; obtain ⟨⟨u0, u1, u2, u3⟩, ⟨u4, u5, u6, u7⟩⟩ := Ma.out.C.cells; clear hb)
        | (go_at_call 62; refine (H62.out ⟨Bp, dp, Bb, db⟩ A3 kc wa Ma.out.C.O Ma.out.j).mono ?_; rintro e wb ⟨⟨⟨⟨p1, p2⟩, pe⟩, rfl, hr⟩, hb⟩; have Mb := Lib.hid (Ma.out.next hb); have HB_wb := Lib.hid hb; have HR1 := Lib.hid hr; clear hr; obtain ⟨⟨v0, v1, v2, v3⟩, ⟨v4, v5, v6, v7⟩⟩ := Mb.out.C.cells; clear hb))
      clear y0 y1 y2 y3 y4 y5 y6 y7 t0 t1 t2 t3 t4 t5 t6 t7 u0 u1 u2 u3 u4 u5 u6 u7
      have hbn := al_below wb (.cells #[.int .i64 p1, .int .i64 p2] 75)
      have hs_S := PairAt.new wb p1 p2
      have hm_ := Mb.out.next hbn
      obtain ⟨Wb, e2⟩ : ∃ W, wb.alloc (.cells #[.int .i64 p1, .int .i64 p2] 75) = W := ⟨_, rfl⟩
      rw [e2] at hm_ hs_S ⊢
      have Mc := Lib.hid hm_
      have S_Wb := Lib.hid hs_S
      clear e2 hbn hm_ hs_S
      clear v0 v1 v2 v3 v4 v5 v6 v7
      obtain ⟨⟨v0, v1, v2, v3⟩, ⟨v4, v5, v6, v7⟩⟩ := Mc.out.C.cells
      go_upto_region 14 with (go_at_call 70; refine (H70.out ⟨Ap, cp, Ab, cb⟩ Wb Mc.out.C.H Mc.out.i).mono ?_; rintro e wc ⟨⟨⟨⟨q1, q2⟩, qe⟩, rfl, hr⟩, hb⟩; have Mk := Lib.hid (Mc.out.next hb); have HB_wc := Lib.hid hb; have hq := SwapIs.unique hr HR1.out; cases hq; clear hr; skip; clear hb)
      clear v0 v1 v2 v3 v4 v5 v6 v7
      have hbn := al_below wc (.cells #[.int .i64 p1, .int .i64 p2] 75)
      have hs_T := PairAt.new wc p1 p2
      have hm_ := Mk.out.next hbn
      have hs_S := S_Wb.out.next (hb0to HB_wc.out hbn)
      obtain ⟨Wd, e2⟩ : ∃ W, wc.alloc (.cells #[.int .i64 p1, .int .i64 p2] 75) = W := ⟨_, rfl⟩
      rw [e2] at hm_ hs_S hs_T ⊢
      have Md := Lib.hid hm_
      have S_Wd := Lib.hid hs_S
      have T_Wd := Lib.hid hs_T
      clear e2 hbn hm_ hs_S hs_T
      obtain ⟨⟨t0, t1, t2, t3⟩, ⟨t4, t5, t6, t7⟩⟩ := Md.out.C.cells
      obtain ⟨f0, f1⟩ := (S_Wd.out).cells
      obtain ⟨f2, f3⟩ := (T_Wd.out).cells
      have hs1 := eq75 p1 p2
      go_wp2_with (first
        | (go_at_call 44; refine (HS44.out ⟨Bp, dp, Bb, db⟩ ⟨Ap, cp, Ab, cb⟩ Wd Md.out.C.O Md.out.C.H).mono ?_; rintro e we ⟨rfl, hb⟩; have Me := Lib.hid (Md.out.next hb); clear hb)
        | (go_at_call 43; refine (sameInts_is A3 A kc cv c HLL.out we Me.out.j Me.out.i).mono ?_; rintro e wf ⟨rfl, hb⟩; have Mf := Lib.hid (Me.out.next hb); clear hb)
        | (go_at_call 17; refine (works_any wf).mono ?_; rintro e wg ⟨rfl, hb⟩; have Mg := Lib.hid (Mf.out.next hb); clear hb))
      go_ret
      exact ⟨rfl, Mg.out.C.B⟩
  · rw [hf] at HF
    clear hf hok hcv
    obtain ⟨Ap, cp, Ab, cb⟩ := L
    go_enter Try.func15, Try.ntmps15
    go_upto_region 1 with (fail)
    have e := HW0.out
    rw [e]
    clear e
    go_wp2_with (first
      | (go_at_call 40; refine (HF.out W0).mono ?_; rintro e w1 ⟨rfl, hb1⟩; obtain ⟨r0, r1, r2, r3⟩ := (HB.out.of (hb1.block _ HB.out.lt)).cells; have B1 := Lib.hid hb1; clear hb1)
      | (go_at_call 17; refine (works_any w1).mono ?_; rintro e w2 ⟨rfl, hb2⟩; have B2 := Lib.hid (hb0to B1.out hb2); clear hb2))
    go_ret
    exact ⟨rfl, hb0to HBW.out B2.out⟩
end Go.Proofs.Ytgjpllmmpclgaaa
