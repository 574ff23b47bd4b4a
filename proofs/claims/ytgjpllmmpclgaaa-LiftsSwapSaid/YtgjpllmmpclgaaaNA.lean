import Derived.Test.YtgjpllmmpclgaaaN9
namespace Go.Proofs.Ytgjpllmmpclgaaa
open Go.RowKit

/-! Helps 60. -/
theorem WBox.putS {W : World} {b : Nat} {Ap Ab Ab' : Option Addr} {cp cb cb' : Nat} {s : Sea} {q : Nat → Int × Int} (h : WBox W b ⟨Ap, cp, Ab, cb⟩ s q) : WBox (W.setCell ⟨b, 3, none⟩ (.slice Ab' s.bs.length cb')) b ⟨Ap, cp, Ab', cb'⟩ s q := by
  have h2 := heap_set (.slice Ab' s.bs.length cb') (o := 3) h
  unfold WBox
  rw [h2]
  simp
theorem WBox.strong {W : World} {b : Nat} {L : SL} {s : Sea} {i : Nat} (h : WBox W b L s (shares s)) : WBox W b L (strongS s i) (shares (strongS s i)) := by
  unfold WBox
  rw [strong_shares, strong_len]
  exact h
/-- One more pound, written into the clone. -/
theorem strong_put {W : World} {n0 n c g o i : Nat} {L : SL} {s : Sea} {q : Nat → Int × Int} {x : Int × Int} (hO : OwnsP W 55 n0 (.slice (some ⟨g, 0, none⟩) n c) s.bs) (hW : WBox W o L s q) (hx : s.bs[i]? = some x) :
    OwnsP (W.setCell ⟨g, i * 2, none⟩ (.int .i64 (x.1 + 1))) 55 n0 (.slice (some ⟨g, 0, none⟩) n c) (strongS s i).bs ∧ WBox (W.setCell ⟨g, i * 2, none⟩ (.int .i64 (x.1 + 1))) o L s q ∧ (∀ o, W.frozen? ⟨g, o, none⟩ = false) ∧ W.cell? ⟨g, i * 2, none⟩ = some (.int .i64 x.1) := by
  have hi := (List.getElem?_eq_some_iff.1 hx).1
  have hP := (ownsP_at hO).1
  obtain ⟨b, off, e, hb, d1, d2⟩ := hP.at_ hx
  cases e
  rw [Nat.zero_add] at d1 d2
  obtain ⟨h1, h2, _⟩ := hO.setAt hi (x.1 + 1, x.2)
  have hg : ∃ arr, W.heap[g]? = some (.cells arr 55 (0, 0)) := by
    rcases hO.2 with ⟨e, _⟩ | ⟨g', cap, cur, e, _, hg, _⟩
    · cases e
    · cases e; exact ⟨_, hg⟩
  obtain ⟨arr, hg⟩ := hg
  have hne : o ≠ g := by
    rintro rfl
    have := hW
    unfold WBox at this
    rw [hg] at this
    cases this
  have hs : (W.setCell ⟨g, i * 2, none⟩ (.int .i64 (x.1 + 1))).setCell ⟨g, i * 2 + 1, none⟩ (.int .i64 x.2) = W.setCell ⟨g, i * 2, none⟩ (.int .i64 (x.1 + 1)) := set_same (by
    exact (World.cell?_setCell_other W ⟨g, i * 2, none⟩ ⟨g, i * 2 + 1, none⟩ _ (by intro e; have := congrArg Addr.off e; simp at this)).trans d2)
  simp only at h1
  rw [hs] at h1
  refine ⟨?_, hW.of (set_other_heap (heap_lt hW) hne), h2, d1⟩
  unfold strongS
  simp only
  rw [List.getD_eq_getElem?_getD, hx]
  exact h1
set_option maxRecDepth 100000 in
set_option maxHeartbeats 4000000 in
theorem Helps_any (L : SL) (s : Sea) (w : World) (hH : SeaAt w w.heap.size L s) : Calls Try.prog 60 #[L.enc s] w fun e w' => ListRetE w.heap.size w' e (helpsRet s) ∧ Below w.heap.size w w' := by
  have hbw := al_below w (.cells #[.int .i64 s.wl, .int .i64 s.wh, .slice L.Ap s.ps.length L.cp, .slice L.Ab s.bs.length L.cb] 27)
  have HB := Lib.hid (SBox.new w L s)
  obtain ⟨c0, c1, c2, c3⟩ := (SBox.new w L s).cells
  obtain ⟨W0, hW0⟩ : ∃ W0, w.alloc (.cells #[.int .i64 s.wl, .int .i64 s.wh, .slice L.Ap s.ps.length L.cp, .slice L.Ab s.bs.length L.cb] 27) = W0 := ⟨_, rfl⟩
  rw [hW0] at hbw HB c0 c1 c2 c3
  have HBW := Lib.hid hbw
  have HW0 := Lib.hid hW0
  have HH := Lib.hid (hH.below hbw)
  rcases helps_two s with ⟨er, h1, h2, h3⟩ | ⟨hv, h1, h2, h3⟩ | ⟨hv, h1, h2, h3⟩
  · have hne : askS s true ≠ 0 := by rw [h2]; exact bne_iff_ne.1 h1
    have HK := Lib.hid (open_no L s true W0 HH.out hne)
    rw [h2] at HK
    rw [h3]
    clear hbw hW0 hH h2 h3 hne
    obtain ⟨Ap, cp, Ab, cb⟩ := L
    go_enter Try.func60, Try.ntmps60
    go_upto_region 1 with (fail)
    have e := HW0.out
    rw [e]
    clear e
    go_wp2_with (go_at_call 72; refine HK.out.mono ?_; rintro e w1 ⟨rfl, hb1⟩; have B1 := Lib.hid hb1; clear hb1)
    go_ret2
    exact ⟨listRetE_nil, hb0to HBW.out B1.out⟩
  · have HK := Lib.hid (open_yes L s true W0 HH.out h1)
    have hS := SOK.ofValid hv
    have H90 := Lib.hid (fun b W hW hb => most_any L s hS b W hW hb)
    have hdn : decide (mostS s < 0) = true := decide_eq_true h2
    generalize mostS s = m1 at H90 hdn
    rw [h3]
    clear hbw hW0 hH h2 h3 hS hv h1
    obtain ⟨Ap, cp, Ab, cb⟩ := L
    go_enter Try.func60, Try.ntmps60
    go_upto_region 1 with (fail)
    have e := HW0.out
    rw [e]
    clear e
    go_wp2_with (first
      | (go_at_call 72; refine HK.out.mono ?_; rintro e w1 ⟨⟨b, rfl, hbb1, hWB⟩, hb1⟩; have B1 := Lib.hid hb1; have WB1 := Lib.hid hWB; obtain ⟨r0, r1, r2, r3⟩ := (HB.out.of (hb1.block _ HB.out.lt)).cells; clear hb1 hWB)
      | (go_at_call 90; refine (H90.out b w1 WB1.out (HH.out.below B1.out)).mono ?_; rintro e w2 ⟨rfl, hb2⟩; have B2 := Lib.hid (hb0to B1.out hb2); clear hb2))
    go_ret2
    exact ⟨listRetE_nil, hb0to HBW.out B2.out⟩
  · have HK := Lib.hid (open_yes L s true W0 HH.out h1)
    have hS := SOK.ofValid hv
    have hbl := hS.bl
    have H90 := Lib.hid (fun b W hW hb => most_any L s hS b W hW hb)
    have H90s := Lib.hid (fun (i : Nat) L' b W (hW : WBox W b L' (strongS s i) (shares (strongS s i))) hb => most_any L' (strongS s i) (strong_ok hv i) b W hW hb)
    have HBT := Lib.hid (fun j (hj : j < s.bs.length) => boat_at hS hj)
    have hdn : decide (mostS s < 0) = false := decide_eq_false (by omega)
    have hHo : Hid (∀ k, mostS s < mostS (strongS s k) → helpsTo s (k + 1) = helpsTo s k ++ [(k : Int)]) := Lib.hid fun k h => helpsTo_yes h
    have hHn : Hid (∀ k, ¬ mostS s < mostS (strongS s k) → helpsTo s (k + 1) = helpsTo s k) := Lib.hid fun k h => helpsTo_no h
    generalize mostS s = m1 at H90 hdn hHo hHn
    rw [h3]
    clear hbw hW0 hH h2 h3 hS hv h1
    obtain ⟨Ap, cp, Ab, cb⟩ := L
    go_enter Try.func60, Try.ntmps60
    go_upto_region 1 with (fail)
    have e := HW0.out
    rw [e]
    clear e
    go_upto_region 7 with (first
      | (go_at_call 72; refine HK.out.mono ?_; rintro e w1 ⟨⟨b, rfl, hbb1, hWB⟩, hb1⟩; have B1 := Lib.hid hb1; have WB1 := Lib.hid hWB; obtain ⟨r0, r1, r2, r3⟩ := (HB.out.of (hb1.block _ HB.out.lt)).cells; clear hb1 hWB)
      | (go_at_call 90; refine (H90.out b w1 WB1.out (HH.out.below B1.out)).mono ?_; rintro e w2 ⟨rfl, hb2⟩; have B2 := Lib.hid (hb0to B1.out hb2); have WB2 := Lib.hid (WB1.out.of (hb2.block _ WB1.out.lt)); obtain ⟨t0, t1, t2, t3⟩ := (HB.out.of (B2.out.block _ HB.out.lt)).cells; clear hb2))
    clear c0 c1 c2 c3 r0 r1 r2 r3
    go_wp2_with (fail)
    clear t0 t1 t2 t3
    go_loopw [7, 25] (fun v i wr => ∃ k : Nat, k ≤ s.bs.length ∧ i = .int .i64 k ∧ Hid (Ints wr w2.heap.size v (helpsTo s k)) ∧ Hid (Below w2.heap.size w2 wr)) (fun _ i _ => s.bs.length - (intOf i).toNat)
    case atStart => exact ⟨0, Nat.zero_le _, rfl, Lib.hid (by rw [helpsTo_zero]; exact ints_nil _ _), Lib.hid (Below.refl _ _)⟩
    case round =>
      obtain ⟨k, hk, rfl, hI, hb⟩ := hrel
      have HBr := Lib.hid (hb0to B2.out hb.out)
      by_cases hlt : k < s.bs.length
      · have HWr := Lib.hid (WB2.out.of (hb.out.block _ WB2.out.lt))
        have HSr := Lib.hid (HB.out.of (HBr.out.block _ HB.out.lt))
        have HHr := Lib.hid (HH.out.below HBr.out)
        obtain ⟨z, hz, z0, z1, z2, z3⟩ := HBT.out k hlt
        obtain ⟨bb, ob, eB, hbb, d1, d2⟩ := HHr.out.b.at_ hz
        have HZ := Lib.hid hz
        simp only at eB
        subst eB
        obtain ⟨r0, r1, r2, r3⟩ := HSr.out.cells
        obtain ⟨g0, g1, g2, g3⟩ := HWr.out.cells
        obtain ⟨g4, g5, g6, g7, g8, g9, g10, g11⟩ := HWr.out.all
        clear hz d1 d2
        go_upto_region 12 with (fail)
        have hba := al_below wr (.cells #[.int .i64 s.wl, .int .i64 s.wh, .slice Ap s.ps.length cp, .slice (some ⟨bb, ob, none⟩) s.bs.length cb, .int .i64 (shares s 0).1, .int .i64 (shares s 0).2, .int .i64 (shares s 1).1, .int .i64 (shares s 1).2, .int .i64 (shares s 2).1, .int .i64 (shares s 2).2, .int .i64 (shares s 3).1, .int .i64 (shares s 3).2] 98)
        have hWa : WBox _ wr.heap.size ⟨Ap, cp, some ⟨bb, ob, none⟩, cb⟩ s (shares s) := World.alloc_heap_new wr (.cells #[.int .i64 s.wl, .int .i64 s.wh, .slice Ap s.ps.length cp, .slice (some ⟨bb, ob, none⟩) s.bs.length cb, .int .i64 (shares s 0).1, .int .i64 (shares s 0).2, .int .i64 (shares s 1).1, .int .i64 (shares s 1).2, .int .i64 (shares s 2).1, .int .i64 (shares s 2).2, .int .i64 (shares s 3).1, .int .i64 (shares s 3).2] 98)
        have hSa := HSr.out.of (hba.block _ HSr.out.lt)
        have hHa := HHr.out.below hba
        obtain ⟨wa, ha⟩ : ∃ W, wr.alloc (.cells #[.int .i64 s.wl, .int .i64 s.wh, .slice Ap s.ps.length cp, .slice (some ⟨bb, ob, none⟩) s.bs.length cb, .int .i64 (shares s 0).1, .int .i64 (shares s 0).2, .int .i64 (shares s 1).1, .int .i64 (shares s 1).2, .int .i64 (shares s 2).1, .int .i64 (shares s 2).2, .int .i64 (shares s 3).1, .int .i64 (shares s 3).2] 98) = W := ⟨_, rfl⟩
        rw [ha] at hba hWa hSa hHa ⊢
        have HBa := Lib.hid hba
        have HWa := Lib.hid hWa
        have HSa := Lib.hid hSa
        have HHa := Lib.hid hHa
        clear ha hba hWa hSa hHa r0 r1 r2 r3 g0 g1 g2 g3 g4 g5 g6 g7 g8 g9 g10 g11
        obtain ⟨r0, r1, r2, r3⟩ := HSa.out.cells
        have X94 := Lib.hid (cloneB_any bb ob cb s.bs (by omega) wa HHa.out.b)
        have hor := HWr.out.lt
        go_upto_region 13 with (go_at_call 94; refine X94.out.mono ?_; rintro e wb ⟨⟨A9, k9, rfl, hO⟩, hb9⟩; have HB9 := Lib.hid (hb0to HBa.out hb9); have HO9 := Lib.hid hO; have HW9 := Lib.hid (HWa.out.of (hb9.block _ HWa.out.lt)); have HH9 := Lib.hid (HHa.out.below hb9); obtain ⟨g0, g1, g2, g3⟩ := HW9.out.cells; have gf := HW9.out.frozen; clear hb9 hO)
        have hWc := HW9.out.putS (Ab' := A9) (cb' := k9)
        have hOc : OwnsP (wb.setCell ⟨wr.heap.size, 3, none⟩ (.slice A9 s.bs.length k9)) 55 wa.heap.size (.slice A9 s.bs.length k9) s.bs := owns_set HO9.out (by decide) HW9.out
        have hBc := HB9.out.setCell (p := ⟨wr.heap.size, 3, none⟩) (Nat.le_refl _) (.slice A9 s.bs.length k9)
        obtain ⟨g, hgA, hgb, _⟩ := hOc.some_ (by omega)
        subst hgA
        obtain ⟨wc, hc⟩ : ∃ W, wb.setCell ⟨wr.heap.size, 3, none⟩ (.slice (some ⟨g, 0, none⟩) s.bs.length k9) = W := ⟨_, rfl⟩
        rw [hc] at hWc hOc hBc ⊢
        obtain ⟨hOd, hWd, gfz, gv⟩ := strong_put hOc hWc HZ.out
        have hga : wr.heap.size ≤ g := Nat.le_trans HBa.out.size hgb
        have hBd := hBc.setCell (p := ⟨g, k * 2, none⟩) hga (.int .i64 (z.1 + 1))
        clear hc g0 g1 g2 g3 gf r0 r1 r2 r3 hga hgb
        obtain ⟨g0, g1, g2, g3⟩ := hWc.cells
        have hwz : IntKind.i64.wrap (z.1 + 1) = z.1 + 1 := IntWalk.i64_in _ (by omega)
        have HOd := Lib.hid hOd
        have HWd := Lib.hid (hWd.strong (i := k))
        have HBd := Lib.hid hBd
        clear hOd hWd hBd hBc hOc hWc
        go_upto_region 14 with (fail)
        obtain ⟨wd, hd⟩ : ∃ W, wc.setCell ⟨g, k * 2, none⟩ (.int .i64 (z.1 + 1)) = W := ⟨_, rfl⟩
        rw [hd] at HOd HWd HBd ⊢
        clear hd g0 g1 g2 g3 gfz gv hwz
        have X90 := Lib.hid (H90s.out k ⟨Ap, cp, some ⟨g, 0, none⟩, k9⟩ wr.heap.size wd HWd.out ⟨HHr.out.p.keep HBd.out.size (fun b o hlt => HBd.out.cell (p := ⟨b, o, none⟩) hlt), (ownsP_at HOd.out).1⟩)
        have HY := Lib.hid (hHo.out k)
        have HN := Lib.hid (hHn.out k)
        have hl0 := helpsTo_len s k
        have hl1 : (helpsTo s k).length ≤ 1000 := by omega
        generalize mostS (strongS s k) = m2 at X90 HY HN
        by_cases hm : m1 < m2
        · have HQ := Lib.hid (HY.out hm)
          have hdl : decide (m1 < m2) = true := decide_eq_true hm
          clear hm HY HN hl0
          as_aux_lemma =>
          go_wp2_with (first
            | (go_at_call 90; refine X90.out.mono ?_; rintro e w4 ⟨rfl, hb4⟩; have B4 := Lib.hid (hb0to HBd.out hb4); have HI4 := Lib.hid ((hI.out.below_ B4.out (Nat.le_refl _)).alloc (.cells #[.int .i64 k] 3)); have HC4 := Lib.hid (show (w4.alloc (.cells #[.int .i64 k] 3)).cell? ⟨w4.heap.size, 0, none⟩ = some (.int .i64 k) by simp [go_sem]); have B5 := Lib.hid (hb0to hb.out (hb0to B4.out (al_below w4 (.cells #[.int .i64 k] 3)))); clear hb4)
            | (refine wpl_app (by rfl) _ _ (by rfl) w2.heap.size w2.heap.size _ (helpsTo s k) k (by rfl) HI4.out ⟨w4.heap.size, 0, none⟩ 1 (by rfl) HC4.out hl1 B5.out.size (Nat.le_refl _) ?_; intro v' w' h1 h2; have HV := Lib.hid h1; have HW := Lib.hid h2; clear h1 h2))
          go_roundw
          case rel => exact ⟨k + 1, by omega, by go_num, Lib.hid (by rw [HQ.out]; exact HV.out), Lib.hid (B5.out.trans HW.out)⟩
          case measure => simp [intOf]; omega
        · have HQ := Lib.hid (show helpsTo s (k + 1) = helpsTo s k by first | exact HN.out hm | exact HN.out (Int.not_lt.1 hm))
          have hdl : decide (m1 < m2) = false := decide_eq_false hm
          clear hm HY HN hl0
          as_aux_lemma =>
          go_wp2_with (go_at_call 90; refine X90.out.mono ?_; rintro e w4 ⟨rfl, hb4⟩; have B4 := Lib.hid (hb0to HBd.out hb4); clear hb4)
          go_roundw
          case rel => exact ⟨k + 1, by omega, by go_num, Lib.hid (by rw [HQ.out]; exact hI.out.below_ B4.out (Nat.le_refl _)), Lib.hid (hb0to hb.out B4.out)⟩
          case measure => simp [intOf]; omega
      · obtain rfl : k = s.bs.length := by omega
        obtain ⟨A, c, rfl, hA0, -, hIn⟩ := hI.out.lay
        have HIn := Lib.hid hIn.at_
        clear hA0 hIn
        go_wp2_with (fail)
        go_ret2
        exact ⟨⟨A, c, rfl, HIn.out⟩, hb0to HBW.out HBr.out⟩
end Go.Proofs.Ytgjpllmmpclgaaa
