import Derived.Test.YtgjpllmmpclgaaaN5
import Derived.Test.YtgjpllmmpclgaaaG11
namespace Go.Proofs.Ytgjpllmmpclgaaa
open Go.RowKit

/-! LiftsHolds 11. -/
theorem eq23 (x y : Int) (w : World) : (binOp .eql 23 (.agg #[.int .i64 x, .int .i64 y]) (.agg #[.int .i64 x, .int .i64 y])).run Try.prog w = .ok (.bool true) w := by
  simp [go_sem]
/-- What LiftsHolds keeps. -/
structure HMem (w W : World) (L L2 : SL) (s : Sea) (z z2 za : Nat) (a b : Int) (A A2 : Option Addr) (l : List Int) : Prop where
  C : CMem w W L L2 s z z2
  k : W.heap[za]? = some (.cells #[.int .i64 a, .int .i64 b] 65 (0, 0))
  i : IntsAt W W.heap.size A l
  j : IntsAt W W.heap.size A2 l
theorem HMem.next {w W W' : World} {L L2 : SL} {s : Sea} {z z2 za : Nat} {a b : Int} {A A2 : Option Addr} {l : List Int} (h : HMem w W L L2 s z z2 za a b A A2 l) (hb : Below W.heap.size W W') : HMem w W' L L2 s z z2 za a b A A2 l :=
  ⟨h.C.next hb, (hb.block _ (heap_lt h.k)).trans h.k, ints_later h.i hb, ints_later h.j hb⟩
theorem HMem.asks {w W : World} {L L2 : SL} {s : Sea} {z z2 za : Nat} {a b : Int} {A A2 : Option Addr} {l : List Int} (h : HMem w W L L2 s z z2 za a b A A2 l) : W.cell? ⟨za, 0, none⟩ = some (.int .i64 a) ∧ W.cell? ⟨za, 1, none⟩ = some (.int .i64 b) := ⟨cell_of_heap h.k rfl, cell_of_heap h.k rfl⟩
def SpanAt (W : World) (k : Nat) (x y : Int) : Prop := W.heap[k]? = some (.cells #[.int .i64 x, .int .i64 y] 23 (0, 0))
theorem SpanAt.next {W W' : World} {k : Nat} {x y : Int} (h : SpanAt W k x y) (hb : Below W.heap.size W W') : SpanAt W' k x y := (hb.block _ (heap_lt h)).trans h
theorem SpanAt.new (W : World) (x y : Int) : SpanAt (W.alloc (.cells #[.int .i64 x, .int .i64 y] 23)) W.heap.size x y := World.alloc_heap_new W _
theorem SpanAt.cells {W : World} {k : Nat} {x y : Int} (h : SpanAt W k x y) : W.cell? ⟨k, 0, none⟩ = some (.int .i64 x) ∧ W.cell? ⟨k, 1, none⟩ = some (.int .i64 y) := ⟨cell_of_heap h rfl, cell_of_heap h rfl⟩
set_option maxRecDepth 100000 in
set_option maxHeartbeats 4000000 in
theorem holds_law (L : SL) (s : Sea) (hok : SLOK L s) (a b : Int) (A : Option Addr) (cv : Nat) (l : List Int) (hA : A = none → cv = 0 ∧ l = []) (w : World) (hH : SeaAt w w.heap.size L s) (hI : IntsAt w w.heap.size A l) : Calls Try.prog 11 #[L.enc s, .agg #[.int .i64 a, .int .i64 b], .slice A l.length cv] w fun e w' => e = .returned (.bool true) ∧ Below w.heap.size w w' := by
  have hbw := hb0to (al_below w (.cells #[.int .i64 s.wl, .int .i64 s.wh, .slice L.Ap s.ps.length L.cp, .slice L.Ab s.bs.length L.cb] 27)) (al_below _ (.cells #[.int .i64 a, .int .i64 b] 65))
  have hx0 := (SBox.new w L s).of (Below.heap_alloc _ (.cells #[.int .i64 a, .int .i64 b] 65) _ (by simp))
  have hk0 := heap_new2 w (.cells #[.int .i64 s.wl, .int .i64 s.wh, .slice L.Ap s.ps.length L.cp, .slice L.Ab s.bs.length L.cb] 27) (.cells #[.int .i64 a, .int .i64 b] 65)
  obtain ⟨W0, hW0⟩ : ∃ W0, (w.alloc (.cells #[.int .i64 s.wl, .int .i64 s.wh, .slice L.Ap s.ps.length L.cp, .slice L.Ab s.bs.length L.cb] 27)).alloc (.cells #[.int .i64 a, .int .i64 b] 65) = W0 := ⟨_, rfl⟩
  rw [hW0] at hbw hx0 hk0
  have HBW := Lib.hid hbw
  have HW0 := Lib.hid hW0
  have HB := Lib.hid hx0
  have HK := Lib.hid hk0
  have HH := Lib.hid (hH.below hbw)
  have HI := Lib.hid (ints_later hI hbw)
  have HA := Lib.hid hA
  have HF := Lib.hid (fun W => far_any L s W)
  obtain ⟨c0, c1, c2, c3⟩ := hx0.cells
  have k0 := cell_of_heap (o := 0) hk0 rfl
  have k1 := cell_of_heap (o := 1) hk0 rfl
  clear hbw hW0 hH hI hx0 hk0 hA
  cases hf : farB s
  · rw [hf] at HF
    by_cases h40 : 40 < l.length
    · have hd : decide ((40 : Int) < (l.length : Int)) = true := decide_eq_true (by omega)
      clear hf h40 hok
      obtain ⟨Ap, cp, Ab, cb⟩ := L
      go_enter Try.func11, Try.ntmps11
      go_upto_region 1 with (fail)
      have e := HW0.out
      rw [e]
      clear e
      go_wp2_with (first
        | (go_at_call 40; refine (HF.out W0).mono ?_; rintro e w1 ⟨rfl, hb1⟩; obtain ⟨r0, r1, r2, r3⟩ := (HB.out.of (hb1.block _ HB.out.lt)).cells; have B1 := Lib.hid hb1; clear hb1)
        | (go_at_call 17; refine (works_any w1).mono ?_; rintro e w2 ⟨rfl, hb2⟩; have B2 := Lib.hid (hb0to B1.out hb2); clear hb2))
      go_ret
      exact ⟨rfl, hb0to HBW.out B2.out⟩
    · have hd : decide ((40 : Int) < (l.length : Int)) = false := decide_eq_false (by omega)
      have hfl := far_le hf
      have hll : l.length ≤ 1000 := by omega
      have HLL := Lib.hid hll
      have HC := Lib.hid (fun W hW => copy_any L s ⟨by omega, by omega⟩ hok W hW)
      have H45 := Lib.hid (fun L' Ax cx W hW hI => Holds_any L' s a l Ax cx W hW hI)
      have H50 := Lib.hid (fun L' W hW hI => rHolds_any L' s a l A cv hll W hW hI)
      have H51 := Lib.hid (fun L' W hW => check_any L' s W hW)
      have H52 := Lib.hid (fun L' W hW => rcheck_any L' s W hW)
      have H46 := Lib.hid (fun L' W hW => Share_any L' s (by omega) b W hW)
      have H53 := Lib.hid (fun L' W hW => rShare_any L' s (by omega) b W hW)
      have H47 := Lib.hid (fun L' W hW => Load_any L' s (by omega) b W hW)
      have H54 := Lib.hid (fun L' W hW => rLoad_any L' s (by omega) b W hW)
      have H55 := Lib.hid (fun L' W hW => Need_any L' s (by omega) b W hW)
      have H56 := Lib.hid (fun L' W hW => rNeed_any L' s (by omega) b W hW)
      have HS44 := Lib.hid (fun L1 L2 W h1 h2 => same_is L1 L2 s ⟨by omega, by omega⟩ W h1 h2)
      obtain ⟨ht, eh, hq⟩ : ∃ m er, holdsRet s a l = (m, er) := ⟨_, _, rfl⟩
      rw [hq] at H45 H50
      obtain ⟨⟨x1, x2⟩, ex, hq2⟩ : ∃ m er, shareRet s b = (m, er) := ⟨_, _, rfl⟩
      rw [hq2] at H46 H53
      obtain ⟨⟨y1, y2⟩, ey, hq3⟩ : ∃ m er, loadRet s b = (m, er) := ⟨_, _, rfl⟩
      rw [hq3] at H47 H54
      obtain ⟨nd, en, hq4⟩ : ∃ m er, needRet s b = (m, er) := ⟨_, _, rfl⟩
      rw [hq4] at H55 H56
      generalize ckS s = ck at H51 H52
      have hs1 := eq23 x1 x2
      have hs2 := eq23 y1 y2
      clear hf h40 hok hfl hq hq2 hq3 hq4
      obtain ⟨Ap, cp, Ab, cb⟩ := L
      go_enter Try.func11, Try.ntmps11
      go_upto_region 1 with (fail)
      have e := HW0.out
      rw [e]
      clear e
      go_upto_region 3 with (go_at_call 40; refine (HF.out W0).mono ?_; rintro e w1 ⟨rfl, hb1⟩; obtain ⟨r0, r1, r2, r3⟩ := (HB.out.of (hb1.block _ HB.out.lt)).cells; have B1 := Lib.hid hb1; clear hb1)
      go_upto_region 4 with (first
        | (go_at_call 37; refine (HC.out w1 (HH.out.below B1.out)).mono ?_; rintro e w2 ⟨⟨⟨Bp, dp, Bb, db⟩, rfl, hC⟩, hb⟩; have B2 := Lib.hid (hb0to B1.out hb); have C2 := Lib.hid hC; have hm2 := hb0to B2.out (al_below w2 (.cells #[] 3)); have IL2 := Lib.hid (ints_later HI.out hm2); clear hb hC hm2)
        | (refine wpl_copyI (by rfl) _ _ (by rfl) w2.heap.size _ [] (by rfl) (ints_made w2 w2.heap.size (Nat.le_refl _)) A cv l HA.out (by rfl) IL2.out (by simp) HLL.out (by simp) ?_; intro v3 w3 h1 h2; have hb23 : Below w2.heap.size w2 w3 := (al_below w2 (.cells #[] 3)).trans h2; have B3 := Lib.hid (hb0to B2.out hb23); have C3 := Lib.hid (C2.out.below hb23); obtain ⟨A3, kc, rfl, -, -, hA3⟩ := (show Ints w3 w2.heap.size v3 l from h1).lay; have I3 := Lib.hid hA3.at_; clear h1 h2 hb23 hA3))
      have hC4 := CMem.new HBW.out HH.out HB.out B3.out C3.out
      have hbn := al_below w3 (.cells #[.int .i64 s.wl, .int .i64 s.wh, .slice Bp s.ps.length dp, .slice Bb s.bs.length db] 27)
      have hk4 := (hb0to B3.out hbn).block _ (heap_lt HK.out) |>.trans HK.out
      have hi4 := ints_later HI.out (hb0to B3.out hbn)
      have hj4 := ints_later I3.out hbn
      simp only at hC4
      obtain ⟨W4, hW4⟩ : ∃ W, w3.alloc (.cells #[.int .i64 s.wl, .int .i64 s.wh, .slice Bp s.ps.length dp, .slice Bb s.bs.length db] 27) = W := ⟨_, rfl⟩
      rw [hW4] at hC4 hbn hk4 hi4 hj4 ⊢
      have M4 := Lib.hid (HMem.mk hC4 hk4 hi4 hj4)
      clear hW4 c0 c1 c2 c3 r0 r1 r2 r3 k0 k1 hC4 hbn hk4 hi4 hj4
      obtain ⟨⟨t0, t1, t2, t3⟩, ⟨t4, t5, t6, t7⟩⟩ := M4.out.C.cells; obtain ⟨t8, t9⟩ := M4.out.asks
      go_upto_region 6 with (first
        | (go_at_call 45; refine (H45.out ⟨Bp, dp, Bb, db⟩ A3 kc W4 M4.out.C.O M4.out.j).mono ?_; rintro e w5 ⟨rfl, hb⟩; have M5 := Lib.hid (M4.out.next hb); have HB_w5 := Lib.hid hb; obtain ⟨⟨u0, u1, u2, u3⟩, ⟨u4, u5, u6, u7⟩⟩ := M5.out.C.cells; obtain ⟨u8, u9⟩ := M5.out.asks; clear hb)
        | (go_at_call 50; refine (H50.out ⟨Ap, cp, Ab, cb⟩ w5 M5.out.C.H M5.out.i).mono ?_; rintro e w6 ⟨rfl, hb⟩; have M6 := Lib.hid (M5.out.next hb); have HB_w6 := Lib.hid hb; obtain ⟨⟨v0, v1, v2, v3⟩, ⟨v4, v5, v6, v7⟩⟩ := M6.out.C.cells; obtain ⟨v8, v9⟩ := M6.out.asks; clear hb))
      clear t0 t1 t2 t3 t4 t5 t6 t7 t8 t9 u0 u1 u2 u3 u4 u5 u6 u7 u8 u9
      have e0 := extB_cell v0
      have e1 := extB_cell v1
      have e2 := extB_cell v2
      have e3 := extB_cell v3
      have e4 := extB_cell v4
      have e5 := extB_cell v5
      have e6 := extB_cell v6
      have e7 := extB_cell v7
      have X51 := Lib.hid (fun z => H51.out ⟨Bp, dp, Bb, db⟩ (extB w6 z) (M6.out.next (extB_below w6 z)).C.O)
      have X52 := Lib.hid (fun z => H52.out ⟨Ap, cp, Ab, cb⟩ (extB w6 z) (M6.out.next (extB_below w6 z)).C.H)
      have X43 := Lib.hid (fun z => sameInts_is A3 A kc cv l HLL.out (extB w6 z) (M6.out.next (extB_below w6 z)).j (M6.out.next (extB_below w6 z)).i)
      refine wp_region_extW (by kernel_rfl) (by kernel_rfl) ?_
      repeat (go_big_quiet_step (first
        | (go_at_call 51; exact ext_call (X51.out _))
        | (go_at_call 52; exact ext_call (X52.out _))
        | (go_at_call 43; exact ext_call (X43.out _))))
      refine wpQuiet_nil ?_
      rintro _ ⟨y, rfl⟩
      have M7 := Lib.hid (M6.out.next (extB_below w6 y))
      generalize extB w6 y = w7 at M7 ⊢
      clear v0 v1 v2 v3 v4 v5 v6 v7 v8 v9 e0 e1 e2 e3 e4 e5 e6 e7
      obtain ⟨⟨t0, t1, t2, t3⟩, ⟨t4, t5, t6, t7⟩⟩ := M7.out.C.cells; obtain ⟨t8, t9⟩ := M7.out.asks
      go_upto_region 9 with (go_at_call 46; refine (H46.out ⟨Bp, dp, Bb, db⟩ w7 M7.out.C.O).mono ?_; rintro e w8 ⟨rfl, hb⟩; have M8 := Lib.hid (M7.out.next hb); have HB_w8 := Lib.hid hb; skip; clear hb)
      have hbn := al_below w8 (.cells #[.int .i64 x1, .int .i64 x2] 23)
      have hs_S := SpanAt.new w8 x1 x2
      have hm_ := M8.out.next hbn
      obtain ⟨W9, e2⟩ : ∃ W, w8.alloc (.cells #[.int .i64 x1, .int .i64 x2] 23) = W := ⟨_, rfl⟩
      rw [e2] at hm_ hs_S ⊢
      have M9 := Lib.hid hm_
      have S_W9 := Lib.hid hs_S
      clear e2 hbn hm_ hs_S
      obtain ⟨⟨u0, u1, u2, u3⟩, ⟨u4, u5, u6, u7⟩⟩ := M9.out.C.cells; obtain ⟨u8, u9⟩ := M9.out.asks
      clear t0 t1 t2 t3 t4 t5 t6 t7 t8 t9
      go_upto_region 10 with (go_at_call 53; refine (H53.out ⟨Ap, cp, Ab, cb⟩ W9 M9.out.C.H).mono ?_; rintro e wa ⟨rfl, hb⟩; have Ma := Lib.hid (M9.out.next hb); have HB_wa := Lib.hid hb; skip; clear hb)
      have hbn := al_below wa (.cells #[.int .i64 x1, .int .i64 x2] 23)
      have hs_T := SpanAt.new wa x1 x2
      have hm_ := Ma.out.next hbn
      have hs_S := S_W9.out.next (hb0to HB_wa.out hbn)
      obtain ⟨Wb, e2⟩ : ∃ W, wa.alloc (.cells #[.int .i64 x1, .int .i64 x2] 23) = W := ⟨_, rfl⟩
      rw [e2] at hm_ hs_S hs_T ⊢
      have Mb := Lib.hid hm_
      have S_Wb := Lib.hid hs_S
      have T_Wb := Lib.hid hs_T
      clear e2 hbn hm_ hs_S hs_T
      obtain ⟨⟨v0, v1, v2, v3⟩, ⟨v4, v5, v6, v7⟩⟩ := Mb.out.C.cells; obtain ⟨v8, v9⟩ := Mb.out.asks
      clear u0 u1 u2 u3 u4 u5 u6 u7 u8 u9
      go_upto_region 11 with (go_at_call 47; refine (H47.out ⟨Bp, dp, Bb, db⟩ Wb Mb.out.C.O).mono ?_; rintro e wc ⟨rfl, hb⟩; have Mc := Lib.hid (Mb.out.next hb); have HB_wc := Lib.hid hb; skip; clear hb)
      have hbn := al_below wc (.cells #[.int .i64 y1, .int .i64 y2] 23)
      have hs_U := SpanAt.new wc y1 y2
      have hm_ := Mc.out.next hbn
      have hs_S := S_Wb.out.next (hb0to HB_wc.out hbn)
      have hs_T := T_Wb.out.next (hb0to HB_wc.out hbn)
      obtain ⟨Wd, e2⟩ : ∃ W, wc.alloc (.cells #[.int .i64 y1, .int .i64 y2] 23) = W := ⟨_, rfl⟩
      rw [e2] at hm_ hs_S hs_T hs_U ⊢
      have Md := Lib.hid hm_
      have S_Wd := Lib.hid hs_S
      have T_Wd := Lib.hid hs_T
      have U_Wd := Lib.hid hs_U
      clear e2 hbn hm_ hs_S hs_T hs_U
      obtain ⟨⟨t0, t1, t2, t3⟩, ⟨t4, t5, t6, t7⟩⟩ := Md.out.C.cells; obtain ⟨t8, t9⟩ := Md.out.asks
      clear v0 v1 v2 v3 v4 v5 v6 v7 v8 v9
      go_upto_region 12 with (go_at_call 54; refine (H54.out ⟨Ap, cp, Ab, cb⟩ Wd Md.out.C.H).mono ?_; rintro e we ⟨rfl, hb⟩; have Me := Lib.hid (Md.out.next hb); have HB_we := Lib.hid hb; skip; clear hb)
      have hbn := al_below we (.cells #[.int .i64 y1, .int .i64 y2] 23)
      have hs_V := SpanAt.new we y1 y2
      have hm_ := Me.out.next hbn
      have hs_S := S_Wd.out.next (hb0to HB_we.out hbn)
      have hs_T := T_Wd.out.next (hb0to HB_we.out hbn)
      have hs_U := U_Wd.out.next (hb0to HB_we.out hbn)
      obtain ⟨Wf, e2⟩ : ∃ W, we.alloc (.cells #[.int .i64 y1, .int .i64 y2] 23) = W := ⟨_, rfl⟩
      rw [e2] at hm_ hs_S hs_T hs_U hs_V ⊢
      have Mf := Lib.hid hm_
      have S_Wf := Lib.hid hs_S
      have T_Wf := Lib.hid hs_T
      have U_Wf := Lib.hid hs_U
      have V_Wf := Lib.hid hs_V
      clear e2 hbn hm_ hs_S hs_T hs_U hs_V
      obtain ⟨⟨u0, u1, u2, u3⟩, ⟨u4, u5, u6, u7⟩⟩ := Mf.out.C.cells; obtain ⟨u8, u9⟩ := Mf.out.asks
      clear t0 t1 t2 t3 t4 t5 t6 t7 t8 t9
      go_upto_region 14 with (first
        | (go_at_call 55; refine (H55.out ⟨Bp, dp, Bb, db⟩ Wf Mf.out.C.O).mono ?_; rintro e wg ⟨rfl, hb⟩; have Mg := Lib.hid (Mf.out.next hb); have HB_wg := Lib.hid hb; obtain ⟨⟨v0, v1, v2, v3⟩, ⟨v4, v5, v6, v7⟩⟩ := Mg.out.C.cells; obtain ⟨v8, v9⟩ := Mg.out.asks; clear hb)
        | (go_at_call 56; refine (H56.out ⟨Ap, cp, Ab, cb⟩ wg Mg.out.C.H).mono ?_; rintro e wh ⟨rfl, hb⟩; have Mh := Lib.hid (Mg.out.next hb); have HB_wh := Lib.hid hb; obtain ⟨⟨t0, t1, t2, t3⟩, ⟨t4, t5, t6, t7⟩⟩ := Mh.out.C.cells; obtain ⟨t8, t9⟩ := Mh.out.asks; clear hb))
      clear u0 u1 u2 u3 u4 u5 u6 u7 u8 u9 v0 v1 v2 v3 v4 v5 v6 v7 v8 v9
      have hbf := hb0to HB_wg.out HB_wh.out
      obtain ⟨f0, f1⟩ := (S_Wf.out.next hbf).cells
      obtain ⟨f2, f3⟩ := (T_Wf.out.next hbf).cells
      obtain ⟨f4, f5⟩ := (U_Wf.out.next hbf).cells
      obtain ⟨f6, f7⟩ := (V_Wf.out.next hbf).cells
      clear hbf
      go_wp2_with (first
        | (go_at_call 44; refine (HS44.out ⟨Bp, dp, Bb, db⟩ ⟨Ap, cp, Ab, cb⟩ wh Mh.out.C.O Mh.out.C.H).mono ?_; rintro e wi ⟨rfl, hb⟩; have Mi := Lib.hid (Mh.out.next hb); clear hb)
        | (go_at_call 17; refine (works_any wi).mono ?_; rintro e wj ⟨rfl, hb⟩; have Mj := Lib.hid (Mi.out.next hb); clear hb))
      go_ret
      exact ⟨rfl, Mj.out.C.B⟩
  · rw [hf] at HF
    clear hf hok
    obtain ⟨Ap, cp, Ab, cb⟩ := L
    go_enter Try.func11, Try.ntmps11
    go_upto_region 1 with (fail)
    have e := HW0.out
    rw [e]
    clear e
    go_wp2_with (first
      | (go_at_call 40; refine (HF.out W0).mono ?_; rintro e w1 ⟨rfl, hb1⟩; obtain ⟨r0, r1, r2, r3⟩ := (HB.out.of (hb1.block _ HB.out.lt)).cells; have B1 := Lib.hid hb1; clear hb1)
      | (go_at_call 17; refine (works_any w1).mono ?_; rintro e w2 ⟨rfl, hb2⟩; have B2 := Lib.hid (hb0to B1.out hb2); clear hb2))
    go_ret
    exact ⟨rfl, hb0to HBW.out B2.out⟩
end Go.Proofs.Ytgjpllmmpclgaaa
