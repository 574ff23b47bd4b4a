import Derived.Test.YtgjpllmmpclgaaaNC
namespace Go.Proofs.Ytgjpllmmpclgaaa
open Go.RowKit

/-! Swap 62. -/
set_option maxRecDepth 100000 in
set_option maxHeartbeats 4000000 in
theorem Swap_any (L : SL) (s : Sea) (c : List Int) (A : Option Addr) (cv : Nat) (hcl : c.length ≤ 1000) (w : World) (hH : SeaAt w w.heap.size L s) (hI : IntsAt w w.heap.size A c) : Calls Try.prog 62 #[L.enc s, .slice A c.length cv] w fun e w' => SwapRet s c e ∧ Below w.heap.size w w' := by
  have hbw := hb0to (al_below w (.cells #[.int .i64 s.wl, .int .i64 s.wh, .slice L.Ap s.ps.length L.cp, .slice L.Ab s.bs.length L.cb] 27)) (al_below _ (.cells #[.int .i64 0, .int .i64 0] 75))
  have hx0 := (SBox.new w L s).of (Below.heap_alloc _ (.cells #[.int .i64 0, .int .i64 0] 75) _ (by simp))
  have hz0 := heap_new2 w (.cells #[.int .i64 s.wl, .int .i64 s.wh, .slice L.Ap s.ps.length L.cp, .slice L.Ab s.bs.length L.cb] 27) (.cells #[.int .i64 0, .int .i64 0] 75)
  obtain ⟨W0, hW0⟩ : ∃ W0, (w.alloc (.cells #[.int .i64 s.wl, .int .i64 s.wh, .slice L.Ap s.ps.length L.cp, .slice L.Ab s.bs.length L.cb] 27)).alloc (.cells #[.int .i64 0, .int .i64 0] 75) = W0 := ⟨_, rfl⟩
  rw [hW0] at hbw hx0 hz0
  have HBW := Lib.hid hbw
  have HW0 := Lib.hid hW0
  have HB := Lib.hid hx0
  have HZ := Lib.hid hz0
  have HH := Lib.hid (hH.below hbw)
  have HI := Lib.hid (ints_later hI hbw)
  obtain ⟨c0, c1, c2, c3⟩ := hx0.cells
  by_cases h0 : askS s (crewB s c) = 0
  · have HO := Lib.hid (sailing_yes L s c A cv hcl W0 HH.out HI.out h0)
    obtain ⟨hv, hcr0⟩ := askS_ok h0
    have hS := SOK.ofValid hv
    have hcr := crewB_iff.1 hcr0
    have hpl := hS.pl
    have hcn : c.length ≤ 4 := by have := hcr.1; omega
    have H84c := Lib.hid (fun b Ax cx W hW hb hH hI => lifts_any L s hS b c Ax cx hcr.2.1 (by have := hcr.1; omega) W hW hb hH hI)
    have H84 := Lib.hid (fun (i j : Nat) (ha : i < c.length) (hb : j < c.length) b Ax cx W hW hb2 hH hI => lifts_any L s hS b (exchL c i j) Ax cx (exch_in ha hb hcr.2.1) (by rw [exchL_len]; have := hcr.1; omega) W hW hb2 hH hI)
    have HR := Lib.hid (fun (r : (Int × Int) × Int) (h : (∃ a b : Nat, a < b ∧ b < c.length ∧ betterP s c a b ∧ noPair s c a b ∧ r = (((a : Int), (b : Int)), 0)) ∨ ((∀ a b : Nat, a < b → b < c.length → ¬ betterP s c a b) ∧ r = ((0, 0), 3))) => show SwapIs s c r from .inr ⟨h0, h⟩)
    have hn0 := noPair_zero s c
    clear hbw hW0 hH hI hx0 hz0 hv hcr0 hS hcr h0 hcl
    obtain ⟨Ap, cp, Ab, cb⟩ := L
    go_enter Try.func62, Try.ntmps62
    go_upto_region 1 with (fail)
    have e := HW0.out
    rw [e]
    clear e
    go_upto_region 4 with (go_at_call 75; refine HO.out.mono ?_; rintro e w3 ⟨⟨bq, rfl, hbq, hWB⟩, hb3⟩; have B3 := Lib.hid hb3; have WB := Lib.hid hWB; clear hb3 hWB)
    clear c0 c1 c2 c3
    go_wp2_with (fail)
    go_loopw [23] (fun v wr => ∃ k : Nat, k ≤ c.length ∧ v = .int .i64 k ∧ Hid (noPair s c k (k + 1)) ∧ Hid (Below w3.heap.size w3 wr)) (fun v _ => c.length - (intOf v).toNat)
    case atStart => exact ⟨0, Nat.zero_le _, rfl, Lib.hid hn0, Lib.hid (Below.refl _ _)⟩
    case round =>
      obtain ⟨wo, rfl⟩ : ∃ x : World, x = wr := ⟨_, rfl⟩
      obtain ⟨k, hk, rfl, hno, hb⟩ := hrel
      have HBo := Lib.hid (hb0to B3.out hb.out)
      by_cases hlt : k < c.length
      · go_wp2_with (fail)
        go_loopw [9] (fun v wi => ∃ j : Nat, (k < j ∧ j ≤ c.length) ∧ v = .int .i64 j ∧ Hid (noPair s c k j) ∧ Hid (Below wo.heap.size wo wi)) (fun v _ => c.length - (intOf v).toNat)
        case atStart => exact ⟨k + 1, ⟨by omega, by omega⟩, by go_num, hno, Lib.hid (Below.refl _ _)⟩
        case round =>
          obtain ⟨j, ⟨hkj, hj⟩, rfl, hrow, hbi⟩ := hrel
          have HBi := Lib.hid (hb0to HBo.out hbi.out)
          have HB3 := Lib.hid (hb0to hb.out hbi.out)
          by_cases hlj : j < c.length
          · obtain ⟨x, hx⟩ : ∃ x, c[k]? = some x := ⟨_, List.getElem?_eq_getElem hlt⟩
            obtain ⟨y, hy⟩ : ∃ y, c[j]? = some y := ⟨_, List.getElem?_eq_getElem hlj⟩
            have HE := Lib.hid (exchL_eq hx hy)
            have HX := Lib.hid (And.intro hx hy)
            have HIr := Lib.hid (ints_later HI.out HBi.out)
            obtain ⟨bi, oi, eA, blt, _⟩ := HIr.out.at_ hx
            have HCN := Lib.hid (show c ≠ [] by rintro rfl; simp at hlt)
            clear hx hy
            subst eA
            have X95 := Lib.hid (cloneI_any bi oi cv c (by omega) wr HIr.out)
            go_upto_region 11 with (go_at_call 95; refine X95.out.mono ?_; rintro e w5 ⟨⟨v5, rfl, hv5⟩, hb5⟩; have B5 := Lib.hid hb5; have H5 := Lib.hid hv5; clear hb5 hv5)
            obtain ⟨g, k5, rfl, hg⟩ := H5.out.some_ HCN.out
            have HI5 := (ints_lays H5.out)
            obtain ⟨_, _, e5, hi5⟩ := HI5
            cases e5
            obtain ⟨_, _, e1, _, d1⟩ := hi5.at_ HX.out.1
            cases e1
            obtain ⟨_, _, e1, _, d2⟩ := hi5.at_ HX.out.2
            cases e1
            rw [Nat.zero_add] at d1 d2
            obtain ⟨hs1, gf, _, gy1⟩ := H5.out.setAt hlt y
            obtain ⟨hs2, gf2, _, gy2⟩ := hs1.setAt (i := j) (by rw [List.length_set]; exact hlj) x
            have HS2 := Lib.hid hs2
            have HG := Lib.hid hg
            clear hs1 hs2 hi5
            go_region
            all_goals
              have hBz : Below wr.heap.size wr (((w5.setCell ⟨g, k, none⟩ (.int .i64 y)).setCell ⟨g, j, none⟩ (.int .i64 x)).drew) := ((B5.out.setCell (p := ⟨g, k, none⟩) HG.out _).setCell (p := ⟨g, j, none⟩) HG.out _).drew
              have hSz : Ints (((w5.setCell ⟨g, k, none⟩ (.int .i64 y)).setCell ⟨g, j, none⟩ (.int .i64 x)).drew) wr.heap.size (.slice (some ⟨g, 0, none⟩) c.length k5) (exchL c k j) := by rw [HE.out]; exact HS2.out.drew
              obtain ⟨w6, e6⟩ : ∃ W, ((w5.setCell ⟨g, k, none⟩ (.int .i64 y)).setCell ⟨g, j, none⟩ (.int .i64 x)).drew = W := ⟨_, rfl⟩
              rw [e6] at hBz hSz ⊢
              obtain ⟨_, _, e7, hi7⟩ := ints_lays hSz
              rw [exchL_len] at e7
              cases e7
              have B6 := Lib.hid hBz
              have I6 := Lib.hid hi7
              clear e6 hBz hSz hi7 d1 d2 gf gy1 gf2 gy2
              have B06 := Lib.hid (hb0to HBi.out B6.out)
              have WB6 := Lib.hid (WB.out.of ((hb0to HB3.out B6.out).block _ WB.out.lt))
              have X84 := Lib.hid (H84.out k j hlt hlj bq (some ⟨g, 0, none⟩) k5 w6 WB6.out WB6.out.lt (HH.out.below B06.out) I6.out)
              have HEL := exchL_len c k j
              have HBt : Hid (betterP s c k j ↔ liftS s c < liftS s (exchL c k j)) := Lib.hid Iff.rfl
              have HNx := Lib.hid (fun h => noPair_next (s := s) (c := c) (a := k) (b := j) hrow.out h)
              rw [HEL] at X84
              clear HEL
              generalize liftS s (exchL c k j) = m2 at X84 HBt
              have H84c' := Lib.hid H84c.out
              by_cases hm : liftS s c < m2
              · have hbt := HBt.out.2 hm
                have HSW := Lib.hid (HR.out (((k : Int), (j : Int)), 0) (.inl ⟨k, j, hkj, hlj, hbt, hrow.out, rfl⟩))
                have hdl : decide (liftS s c < m2) = true := decide_eq_true hm
                clear H84c
                generalize liftS s c = m1 at H84c' hdl
                clear hm HBt hbt
                as_aux_lemma =>
                go_wp2_with (first
                  | (go_at_call 84; refine (H84c'.out bq (some ⟨bi, oi, none⟩) cv w7 WB7.out WB7.out.lt (HH.out.below (hb0to B06.out B7.out)) (ints_later HI.out (hb0to B06.out B7.out))).mono ?_; rintro e w8 ⟨rfl, hb8⟩; have B8 := Lib.hid (hb0to B06.out (hb0to B7.out hb8)); have HZ_w8 := Lib.hid ((B8.out.block _ (heap_lt HZ.out)).trans HZ.out); have qr0 : w8.cell? ⟨w.heap.size + 1, 0, none⟩ = some (.int .i64 0) := cell_of_heap HZ_w8.out rfl; have qr1 : w8.cell? ⟨w.heap.size + 1, 1, none⟩ = some (.int .i64 0) := cell_of_heap HZ_w8.out rfl; have qf : ∀ o, w8.frozen? ⟨w.heap.size + 1, o, none⟩ = false := frozen_of_heap HZ_w8.out; clear hb8)
                  | (go_at_call 84; refine X84.out.mono ?_; rintro e w7 ⟨rfl, hb7⟩; have B7 := Lib.hid hb7; have WB7 := Lib.hid (WB6.out.of (hb7.block _ WB6.out.lt)); clear hb7))
                have hw3 : ((w8.setCell ⟨w.heap.size + 1, 0, none⟩ (.int .i64 (k : Int))).setCell ⟨w.heap.size + 1, 1, none⟩ (.int .i64 (j : Int))).heap[w.heap.size + 1]? = some (.cells #[.int .i64 (k : Int), .int .i64 (j : Int)] 75) := heap_set (.int .i64 (j : Int)) (heap_set (.int .i64 (k : Int)) HZ_w8.out)
                have BF := Lib.hid ((((HBW.out.trans (B8.out.mono HBW.out.size)).setCell (p := ⟨w.heap.size + 1, 0, none⟩) (Nat.le_succ _) (.int .i64 (k : Int)))).setCell (p := ⟨w.heap.size + 1, 1, none⟩) (Nat.le_succ _) (.int .i64 (j : Int)))
                generalize (w8.setCell ⟨w.heap.size + 1, 0, none⟩ (.int .i64 (k : Int))).setCell ⟨w.heap.size + 1, 1, none⟩ (.int .i64 (j : Int)) = wF at hw3 BF ⊢
                have rr0 : wF.cell? ⟨w.heap.size + 1, 0, none⟩ = some (.int .i64 (k : Int)) := cell_of_heap hw3 rfl
                have rr1 : wF.cell? ⟨w.heap.size + 1, 1, none⟩ = some (.int .i64 (j : Int)) := cell_of_heap hw3 rfl
                refine bodyPost_ret (by simp [results, Try.results62, go_sem, rr0, rr1]; try rfl) rfl ?_
                exact ⟨⟨_, rfl, HSW.out⟩, BF.out⟩
              · have hbt : ¬ betterP s c k j := fun h => hm (HBt.out.1 h)
                have HN2 := Lib.hid (HNx.out hbt)
                have hdl : decide (liftS s c < m2) = false := decide_eq_false hm
                clear H84c
                generalize liftS s c = m1 at H84c' hdl
                clear hm HBt hbt HNx
                as_aux_lemma =>
                go_wp2_with (first
                  | (go_at_call 84; refine (H84c'.out bq (some ⟨bi, oi, none⟩) cv w7 WB7.out WB7.out.lt (HH.out.below (hb0to B06.out B7.out)) (ints_later HI.out (hb0to B06.out B7.out))).mono ?_; rintro e w8 ⟨rfl, hb8⟩; have B8 := Lib.hid (hb0to B6.out (hb0to B7.out hb8)); clear hb8)
                  | (go_at_call 84; refine X84.out.mono ?_; rintro e w7 ⟨rfl, hb7⟩; have B7 := Lib.hid hb7; have WB7 := Lib.hid (WB6.out.of (hb7.block _ WB6.out.lt)); clear hb7))
                go_roundw
                case rel => exact ⟨j + 1, ⟨by omega, by omega⟩, by go_num, HN2, Lib.hid (hb0to hbi.out B8.out)⟩
                case measure => simp [intOf]; omega
          · obtain rfl : j = c.length := by omega
            have HN2 := Lib.hid (noPair_row hrow.out)
            go_wp2_with (fail)
            go_roundw
            case rel => exact ⟨k + 1, by omega, by go_num, HN2, Lib.hid (hb0to hb.out hbi.out)⟩
            case measure => simp [intOf]; omega
      · obtain rfl : k = c.length := by omega
        have HSW := Lib.hid (HR.out ((0, 0), 3) (.inr ⟨swap_end (Nat.le_refl _) hno.out, rfl⟩))
        have HZ_wo := Lib.hid ((HBo.out.block _ (heap_lt HZ.out)).trans HZ.out); have qr0 : wo.cell? ⟨w.heap.size + 1, 0, none⟩ = some (.int .i64 0) := cell_of_heap HZ_wo.out rfl; have qr1 : wo.cell? ⟨w.heap.size + 1, 1, none⟩ = some (.int .i64 0) := cell_of_heap HZ_wo.out rfl; have qf : ∀ o, wo.frozen? ⟨w.heap.size + 1, o, none⟩ = false := frozen_of_heap HZ_wo.out
        go_wp2_with (fail)
        have hw3 : ((wo.setCell ⟨w.heap.size + 1, 0, none⟩ (.int .i64 0)).setCell ⟨w.heap.size + 1, 1, none⟩ (.int .i64 0)).heap[w.heap.size + 1]? = some (.cells #[.int .i64 0, .int .i64 0] 75) := heap_set (.int .i64 0) (heap_set (.int .i64 0) HZ_wo.out)
        have BF := Lib.hid ((((HBW.out.trans (HBo.out.mono HBW.out.size)).setCell (p := ⟨w.heap.size + 1, 0, none⟩) (Nat.le_succ _) (.int .i64 0))).setCell (p := ⟨w.heap.size + 1, 1, none⟩) (Nat.le_succ _) (.int .i64 0))
        generalize (wo.setCell ⟨w.heap.size + 1, 0, none⟩ (.int .i64 0)).setCell ⟨w.heap.size + 1, 1, none⟩ (.int .i64 0) = wF at hw3 BF ⊢
        have rr0 : wF.cell? ⟨w.heap.size + 1, 0, none⟩ = some (.int .i64 0) := cell_of_heap hw3 rfl
        have rr1 : wF.cell? ⟨w.heap.size + 1, 1, none⟩ = some (.int .i64 0) := cell_of_heap hw3 rfl
        refine bodyPost_ret (by simp [results, Try.results62, go_sem, rr0, rr1]; try rfl) rfl ?_
        exact ⟨⟨_, rfl, HSW.out⟩, BF.out⟩
  · have HO := Lib.hid (sailing_no L s c A cv hcl W0 HH.out HI.out h0)
    have HSW := Lib.hid (show SwapIs s c ((0, 0), askS s (crewB s c)) from .inl ⟨h0, rfl⟩)
    have hd : (askS s (crewB s c) != 0) = true := by simp [h0]
    generalize askS s (crewB s c) = er at HO hd HSW
    clear hbw hW0 hH h0 hI hcl hx0 hz0
    obtain ⟨Ap, cp, Ab, cb⟩ := L
    go_enter Try.func62, Try.ntmps62
    go_upto_region 1 with (fail)
    have e := HW0.out
    rw [e]
    clear e
    go_wp2_with (go_at_call 75; refine HO.out.mono ?_; rintro e w1 ⟨rfl, hb1⟩; have B1 := Lib.hid hb1; have HZ_w1 := Lib.hid ((B1.out.block _ (heap_lt HZ.out)).trans HZ.out); have qr0 : w1.cell? ⟨w.heap.size + 1, 0, none⟩ = some (.int .i64 0) := cell_of_heap HZ_w1.out rfl; have qr1 : w1.cell? ⟨w.heap.size + 1, 1, none⟩ = some (.int .i64 0) := cell_of_heap HZ_w1.out rfl; have qf : ∀ o, w1.frozen? ⟨w.heap.size + 1, o, none⟩ = false := frozen_of_heap HZ_w1.out; clear hb1)
    have hw3 : ((w1.setCell ⟨w.heap.size + 1, 0, none⟩ (.int .i64 0)).setCell ⟨w.heap.size + 1, 1, none⟩ (.int .i64 0)).heap[w.heap.size + 1]? = some (.cells #[.int .i64 0, .int .i64 0] 75) := heap_set (.int .i64 0) (heap_set (.int .i64 0) HZ_w1.out)
    have BF := Lib.hid ((((HBW.out.trans (B1.out.mono HBW.out.size)).setCell (p := ⟨w.heap.size + 1, 0, none⟩) (Nat.le_succ _) (.int .i64 0))).setCell (p := ⟨w.heap.size + 1, 1, none⟩) (Nat.le_succ _) (.int .i64 0))
    generalize (w1.setCell ⟨w.heap.size + 1, 0, none⟩ (.int .i64 0)).setCell ⟨w.heap.size + 1, 1, none⟩ (.int .i64 0) = wF at hw3 BF ⊢
    have rr0 : wF.cell? ⟨w.heap.size + 1, 0, none⟩ = some (.int .i64 0) := cell_of_heap hw3 rfl
    have rr1 : wF.cell? ⟨w.heap.size + 1, 1, none⟩ = some (.int .i64 0) := cell_of_heap hw3 rfl
    refine bodyPost_ret (by simp [results, Try.results62, go_sem, rr0, rr1]; try rfl) rfl ?_
    exact ⟨⟨_, rfl, HSW.out⟩, BF.out⟩
end Go.Proofs.Ytgjpllmmpclgaaa
