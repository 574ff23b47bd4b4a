import Derived.Test.YtgjpllmmpclgaaaN4
namespace Go.Proofs.Ytgjpllmmpclgaaa
open Go.RowKit

/-! The specification's Share 53, Load 54, Need 56, Holds 50. -/
set_option maxRecDepth 100000 in
set_option maxHeartbeats 4000000 in
theorem rShare_any (L : SL) (s : Sea) (hn : s.ps.length ≤ 1000) (k : Int) (w : World) (hH : SeaAt w w.heap.size L s) : Calls Try.prog 53 #[L.enc s, .int .i64 k] w fun e w' => e = .returned (.tuple #[.agg #[.int .i64 (shareRet s k).1.1, .int .i64 (shareRet s k).1.2], .int .i64 (shareRet s k).2]) ∧ Below w.heap.size w w' := by
  have hbw := hb0to (al_below w (.cells #[.int .i64 s.wl, .int .i64 s.wh, .slice L.Ap s.ps.length L.cp, .slice L.Ab s.bs.length L.cb] 27)) (al_below _ (.cells #[.int .i64 0, .int .i64 0] 23))
  have HB0 := (SBox.new w L s).of ((al_below _ (.cells #[.int .i64 0, .int .i64 0] 23)).block _ (SBox.new w L s).lt)
  have hr0 := World.alloc_heap_new (w.alloc (.cells #[.int .i64 s.wl, .int .i64 s.wh, .slice L.Ap s.ps.length L.cp, .slice L.Ab s.bs.length L.cb] 27)) (.cells #[.int .i64 0, .int .i64 0] 23)
  obtain ⟨W0, hW0⟩ : ∃ W0, (w.alloc (.cells #[.int .i64 s.wl, .int .i64 s.wh, .slice L.Ap s.ps.length L.cp, .slice L.Ab s.bs.length L.cb] 27)).alloc (.cells #[.int .i64 0, .int .i64 0] 23) = W0 := ⟨_, rfl⟩
  rw [hW0] at hbw HB0 hr0
  rw [show (w.alloc (.cells #[.int .i64 s.wl, .int .i64 s.wh, .slice L.Ap s.ps.length L.cp, .slice L.Ab s.bs.length L.cb] 27)).heap.size = w.heap.size + 1 from Array.size_push _] at hr0
  have hc0 := HB0.cells
  have HR := Lib.hid hr0
  have HRL := Lib.hid (heap_lt hr0)
  have HB := Lib.hid HB0
  have HBW := Lib.hid hbw
  have HW0 := Lib.hid hW0
  have HH := Lib.hid (hH.below hbw)
  have HP := Lib.hid (fun W => rIsPlace_any L s k W hn)
  obtain ⟨is, his⟩ : ∃ b, b = inR k 0 (s.ps.length - 1) := ⟨_, rfl⟩
  rw [← his] at HP
  clear hr0 HB0
  by_cases h0 : askS s is = 0
  · obtain ⟨hv, hi⟩ := askS_ok h0
    have HS := Lib.hid (SOK.ofValid hv)
    have hpl := HS.out.pl
    have hk := inR_true.1 (his.symm.trans hi)
    have HQ := Lib.hid (show shareRet s k = (shares s k.toNat, 0) by unfold shareRet; rw [← his, if_neg (by simp [h0])])
    obtain ⟨kn, rfl⟩ : ∃ kn : Nat, k = kn := ⟨k.toNat, by omega⟩
    have hkn : kn < 4 := by omega
    have hkn' : (kn : Int) < 4 := by omega
    have H87 := Lib.hid (fun W hW => ask_any L s is W hW)
    rw [h0] at H87
    obtain ⟨px, hpx⟩ : ∃ x, s.ps[kn]? = some x := ⟨_, List.getElem?_eq_getElem (by omega)⟩
    have H88 := Lib.hid (fun W hW => rshare_any L s HS.out kn px hpx W hW)
    rw [← shares_at hpx] at H88
    obtain ⟨sv, hsv⟩ : ∃ v, v = shares s kn := ⟨_, rfl⟩
    have hqs : (shares s (kn : Int).toNat) = sv := by rw [hsv]; simp
    rw [hqs] at HQ
    rw [← hsv] at H88
    obtain ⟨x, y⟩ := sv
    simp only at H88
    clear hpx hsv hqs
    clear hbw hW0 hH his hv h0 hk hn hpl
    subst hi
    obtain ⟨c0, c1, c2, c3⟩ := hc0
    obtain ⟨Ap, cp, Ab, cb⟩ := L
    go_enter Try.func53, Try.ntmps53
    go_upto_region 1 with (fail)
    have e := HW0.out
    rw [e]
    clear e
    go_region_held3 (fun w' => w'.cell? ⟨w.heap.size, 0, none⟩ = some (.int .i64 s.wl) ∧ w'.cell? ⟨w.heap.size, 1, none⟩ = some (.int .i64 s.wh) ∧ w'.cell? ⟨w.heap.size, 2, none⟩ = some (.slice Ap s.ps.length cp) ∧ w'.cell? ⟨w.heap.size, 3, none⟩ = some (.slice Ab s.bs.length cb)) (first | go_keep)
      (first
        | (go_at_call 39; refine (HP.out _).mono ?_; rintro e w1 ⟨rfl, hb1⟩; have hk1 : Below W0.heap.size W0 w1 := (by first | exact hb1 | exact hb0to (drew_below W0) hb1); have B1 := Lib.hid hk1; obtain ⟨r0, r1, r2, r3⟩ := (HB.out.of (hk1.block _ HB.out.lt)).cells; clear hb1 hk1)
        | (go_at_call 87; refine (H87.out w1 (HH.out.below B1.out)).mono ?_; rintro e w2 ⟨rfl, hb2⟩; have B2 := Lib.hid (hb0to B1.out hb2); obtain ⟨t0, t1, t2, t3⟩ := (HB.out.of (B2.out.block _ HB.out.lt)).cells; clear hb2))
    all_goals
      go_wp2_with (go_at_call 88; refine (H88.out w2 (HH.out.below B2.out)).mono ?_; rintro e w4 ⟨rfl, hb4⟩; have B2 := Lib.hid (hb0to B2.out hb4); have HR2 := Lib.hid ((B2.out.block _ HRL.out).trans HR.out); have qr0 : w4.cell? ⟨w.heap.size + 1, 0, none⟩ = some (.int .i64 0) := cell_of_heap HR2.out rfl; have qr1 : w4.cell? ⟨w.heap.size + 1, 1, none⟩ = some (.int .i64 0) := cell_of_heap HR2.out rfl; have qf : ∀ o, w4.frozen? ⟨w.heap.size + 1, o, none⟩ = false := frozen_of_heap HR2.out; clear hb4)
      have hw3 : ((w4.setCell ⟨w.heap.size + 1, 0, none⟩ (.int .i64 x)).setCell ⟨w.heap.size + 1, 1, none⟩ (.int .i64 y)).heap[w.heap.size + 1]? = some (.cells #[.int .i64 x, .int .i64 y] 23) := heap_set (.int .i64 y) (heap_set (.int .i64 x) HR2.out)
      have B3 := Lib.hid ((((HBW.out.trans (B2.out.mono HBW.out.size)).setCell (p := ⟨w.heap.size + 1, 0, none⟩) (Nat.le_succ _) (.int .i64 x))).setCell (p := ⟨w.heap.size + 1, 1, none⟩) (Nat.le_succ _) (.int .i64 y))
      generalize (w4.setCell ⟨w.heap.size + 1, 0, none⟩ (.int .i64 x)).setCell ⟨w.heap.size + 1, 1, none⟩ (.int .i64 y) = w5 at hw3 B3 ⊢
      have rr0 : w5.cell? ⟨w.heap.size + 1, 0, none⟩ = some (.int .i64 x) := by simp [World.cell?, hw3]
      have rr1 : w5.cell? ⟨w.heap.size + 1, 1, none⟩ = some (.int .i64 y) := by simp [World.cell?, hw3]
      refine bodyPost_ret (by simp [results, Try.results53, go_sem, rr0, rr1]; try rfl) rfl ?_
      exact ⟨by rw [HQ.out], B3.out⟩
  · have HQ := Lib.hid (show shareRet s k = ((0, 0), askS s is) by unfold shareRet; rw [← his, if_pos h0])
    have H87 := Lib.hid (fun W hW => ask_any L s is W hW)
    obtain ⟨er, her⟩ : ∃ x, x = askS s is := ⟨_, rfl⟩
    rw [← her] at H87 HQ h0
    have hd : (er != 0) = true := bne_iff_ne.2 h0
    clear hbw hW0 hH his h0 her hn
    obtain ⟨c0, c1, c2, c3⟩ := hc0
    obtain ⟨Ap, cp, Ab, cb⟩ := L
    go_enter Try.func53, Try.ntmps53
    go_upto_region 1 with (fail)
    have e := HW0.out
    rw [e]
    clear e
    go_region_held3 (fun w' => w'.cell? ⟨w.heap.size, 0, none⟩ = some (.int .i64 s.wl) ∧ w'.cell? ⟨w.heap.size, 1, none⟩ = some (.int .i64 s.wh) ∧ w'.cell? ⟨w.heap.size, 2, none⟩ = some (.slice Ap s.ps.length cp) ∧ w'.cell? ⟨w.heap.size, 3, none⟩ = some (.slice Ab s.bs.length cb)) (first | go_keep)
      (first
        | (go_at_call 39; refine (HP.out _).mono ?_; rintro e w1 ⟨rfl, hb1⟩; have hk1 : Below W0.heap.size W0 w1 := (by first | exact hb1 | exact hb0to (drew_below W0) hb1); have B1 := Lib.hid hk1; obtain ⟨r0, r1, r2, r3⟩ := (HB.out.of (hk1.block _ HB.out.lt)).cells; clear hb1 hk1)
        | (go_at_call 87; refine (H87.out w1 (HH.out.below B1.out)).mono ?_; rintro e w2 ⟨rfl, hb2⟩; have B2 := Lib.hid (hb0to B1.out hb2); obtain ⟨t0, t1, t2, t3⟩ := (HB.out.of (B2.out.block _ HB.out.lt)).cells; clear hb2))
    all_goals
      have HR2 := Lib.hid ((B2.out.block _ HRL.out).trans HR.out)
      have qr0 : w2.cell? ⟨w.heap.size + 1, 0, none⟩ = some (.int .i64 0) := cell_of_heap HR2.out rfl
      have qr1 : w2.cell? ⟨w.heap.size + 1, 1, none⟩ = some (.int .i64 0) := cell_of_heap HR2.out rfl
      have qf : ∀ o, w2.frozen? ⟨w.heap.size + 1, o, none⟩ = false := frozen_of_heap HR2.out
      go_wp2_with (fail)
      have hw3 : ((w2.setCell ⟨w.heap.size + 1, 0, none⟩ (.int .i64 0)).setCell ⟨w.heap.size + 1, 1, none⟩ (.int .i64 0)).heap[w.heap.size + 1]? = some (.cells #[.int .i64 0, .int .i64 0] 23) := heap_set (.int .i64 0) (heap_set (.int .i64 0) HR2.out)
      have B3 := Lib.hid ((((HBW.out.trans (B2.out.mono HBW.out.size)).setCell (p := ⟨w.heap.size + 1, 0, none⟩) (Nat.le_succ _) (.int .i64 0))).setCell (p := ⟨w.heap.size + 1, 1, none⟩) (Nat.le_succ _) (.int .i64 0))
      generalize (w2.setCell ⟨w.heap.size + 1, 0, none⟩ (.int .i64 0)).setCell ⟨w.heap.size + 1, 1, none⟩ (.int .i64 0) = w5 at hw3 B3 ⊢
      have rr0 : w5.cell? ⟨w.heap.size + 1, 0, none⟩ = some (.int .i64 0) := by simp [World.cell?, hw3]
      have rr1 : w5.cell? ⟨w.heap.size + 1, 1, none⟩ = some (.int .i64 0) := by simp [World.cell?, hw3]
      refine bodyPost_ret (by simp [results, Try.results53, go_sem, rr0, rr1]; try rfl) rfl ?_
      exact ⟨by rw [HQ.out], B3.out⟩
set_option maxRecDepth 100000 in
set_option maxHeartbeats 4000000 in
theorem rLoad_any (L : SL) (s : Sea) (hn : s.ps.length ≤ 1000) (k : Int) (w : World) (hH : SeaAt w w.heap.size L s) : Calls Try.prog 54 #[L.enc s, .int .i64 k] w fun e w' => e = .returned (.tuple #[.agg #[.int .i64 (loadRet s k).1.1, .int .i64 (loadRet s k).1.2], .int .i64 (loadRet s k).2]) ∧ Below w.heap.size w w' := by
  have hbw := hb0to (al_below w (.cells #[.int .i64 s.wl, .int .i64 s.wh, .slice L.Ap s.ps.length L.cp, .slice L.Ab s.bs.length L.cb] 27)) (al_below _ (.cells #[.int .i64 0, .int .i64 0] 23))
  have HB0 := (SBox.new w L s).of ((al_below _ (.cells #[.int .i64 0, .int .i64 0] 23)).block _ (SBox.new w L s).lt)
  have hr0 := World.alloc_heap_new (w.alloc (.cells #[.int .i64 s.wl, .int .i64 s.wh, .slice L.Ap s.ps.length L.cp, .slice L.Ab s.bs.length L.cb] 27)) (.cells #[.int .i64 0, .int .i64 0] 23)
  obtain ⟨W0, hW0⟩ : ∃ W0, (w.alloc (.cells #[.int .i64 s.wl, .int .i64 s.wh, .slice L.Ap s.ps.length L.cp, .slice L.Ab s.bs.length L.cb] 27)).alloc (.cells #[.int .i64 0, .int .i64 0] 23) = W0 := ⟨_, rfl⟩
  rw [hW0] at hbw HB0 hr0
  rw [show (w.alloc (.cells #[.int .i64 s.wl, .int .i64 s.wh, .slice L.Ap s.ps.length L.cp, .slice L.Ab s.bs.length L.cb] 27)).heap.size = w.heap.size + 1 from Array.size_push _] at hr0
  obtain ⟨c0, c1, c2, c3⟩ := HB0.cells
  have HR := Lib.hid hr0
  have HRL := Lib.hid (heap_lt hr0)
  have HB := Lib.hid HB0
  have HBW := Lib.hid hbw
  have HW0 := Lib.hid hW0
  have HH := Lib.hid (hH.below hbw)
  have HP := Lib.hid (fun W hW => rShare_any L s hn k W hW)
  have hdef : loadRet s k = if (shareRet s k).2 ≠ 0 then ((0, 0), (shareRet s k).2) else ((s.wl * (shareRet s k).1.1, s.wh * (shareRet s k).1.2), 0) := rfl
  have hbad := shareRet_bad (s := s) (k := k)
  have hgood := shareRet_good (s := s) (k := k)
  obtain ⟨⟨⟨x, y⟩, er⟩, hsr⟩ : ∃ r, r = shareRet s k := ⟨_, rfl⟩
  rw [← hsr] at hdef hbad hgood HP
  simp only at hdef hbad hgood HP
  clear hr0 HB0 hW0 hbw hsr hH hn
  obtain ⟨Ap, cp, Ab, cb⟩ := L
  by_cases h0 : er = 0
  · subst h0
    obtain ⟨hS, x0, x1, y0, y1⟩ := hgood rfl
    have HQ := Lib.hid (hdef.trans (if_neg (by simp)))
    clear hdef hbad hgood
    have a1 : 0 ≤ s.wl * x := Int.mul_nonneg hS.w0 x0
    have b1 : 0 ≤ s.wh * y := Int.mul_nonneg (by have := hS.w0; have := hS.w1; omega) y0
    have a2 : s.wl * x ≤ 2000 * 12 := Int.mul_le_mul (by have := hS.w1; have := hS.w2; omega) x1 x0 (by omega)
    have b2 : s.wh * y ≤ 2000 * 12 := Int.mul_le_mul hS.w2 y1 y0 (by omega)
    have hw1 : IntKind.i64.wrap (s.wl * x) = s.wl * x := IntWalk.i64_in _ (by omega)
    have hw2 : IntKind.i64.wrap (s.wh * y) = s.wh * y := IntWalk.i64_in _ (by omega)
    clear hS
    go_enter Try.func54, Try.ntmps54
    go_upto_region 1 with (fail)
    have e := HW0.out
    rw [e]
    clear e
    go_upto_region 2 with (go_at_call 53; refine (HP.out W0 HH.out).mono ?_; rintro e w1 ⟨rfl, hb1⟩; have B1 := Lib.hid hb1; obtain ⟨r0, r1, r2, r3⟩ := (HB.out.of (hb1.block _ HB.out.lt)).cells; have hr2 := (hb1.block _ HRL.out).trans HR.out; have HL2 := Lib.hid (heap_lt hr2); clear hb1)
    have B2 := Lib.hid (hb0to B1.out (al_below w1 (.cells #[.int .i64 x, .int .i64 y] 23)))
    have hr3 := (B2.out.block _ HRL.out).trans HR.out
    have hn3 := World.alloc_heap_new w1 (.cells #[.int .i64 x, .int .i64 y] 23)
    obtain ⟨t0, t1, t2, t3⟩ := (HB.out.of (B2.out.block _ HB.out.lt)).cells
    generalize w1.alloc (.cells #[.int .i64 x, .int .i64 y] 23) = w2 at B2 hr3 hn3 t0 t1 t2 t3 ⊢
    have n0 : w2.cell? ⟨w1.heap.size, 0, none⟩ = some (.int .i64 x) := by simp [World.cell?, hn3]
    have n1 : w2.cell? ⟨w1.heap.size, 1, none⟩ = some (.int .i64 y) := by simp [World.cell?, hn3]
    have qr0 : w2.cell? ⟨w.heap.size + 1, 0, none⟩ = some (.int .i64 0) := by simp [World.cell?, hr3]
    have qr1 : w2.cell? ⟨w.heap.size + 1, 1, none⟩ = some (.int .i64 0) := by simp [World.cell?, hr3]
    have qf : ∀ o, w2.frozen? ⟨w.heap.size + 1, o, none⟩ = false := fun o => by simp [World.frozen?, hr3]
    go_wp2_with (fail)
    have hw3 : ((w2.setCell ⟨w.heap.size + 1, 0, none⟩ (.int .i64 (s.wl * x))).setCell ⟨w.heap.size + 1, 1, none⟩ (.int .i64 (s.wh * y))).heap[w.heap.size + 1]? = some (.cells #[.int .i64 (s.wl * x), .int .i64 (s.wh * y)] 23) := heap_set (.int .i64 (s.wh * y)) (heap_set (.int .i64 (s.wl * x)) hr3)
    have B3 := Lib.hid ((((HBW.out.trans (B2.out.mono HBW.out.size)).setCell (p := ⟨w.heap.size + 1, 0, none⟩) (Nat.le_succ _) (.int .i64 (s.wl * x)))).setCell (p := ⟨w.heap.size + 1, 1, none⟩) (Nat.le_succ _) (.int .i64 (s.wh * y)))
    generalize (w2.setCell ⟨w.heap.size + 1, 0, none⟩ (.int .i64 (s.wl * x))).setCell ⟨w.heap.size + 1, 1, none⟩ (.int .i64 (s.wh * y)) = w3 at hw3 B3 ⊢
    have rr0 : w3.cell? ⟨w.heap.size + 1, 0, none⟩ = some (.int .i64 (s.wl * x)) := by simp [World.cell?, hw3]
    have rr1 : w3.cell? ⟨w.heap.size + 1, 1, none⟩ = some (.int .i64 (s.wh * y)) := by simp [World.cell?, hw3]
    refine bodyPost_ret (by simp [results, Try.results54, go_sem, rr0, rr1]; try rfl) rfl ?_
    exact ⟨by rw [HQ.out], B3.out⟩
  · have hd : (er != 0) = true := bne_iff_ne.2 h0
    have HQ := Lib.hid (hdef.trans (if_pos h0))
    have hxy := hbad h0
    obtain ⟨rfl, rfl⟩ : x = 0 ∧ y = 0 := by simpa using hxy
    clear hdef hbad hgood hxy h0
    go_enter Try.func54, Try.ntmps54
    go_upto_region 1 with (fail)
    have e := HW0.out
    rw [e]
    clear e
    go_upto_region 2 with (go_at_call 53; refine (HP.out W0 HH.out).mono ?_; rintro e w1 ⟨rfl, hb1⟩; have B1 := Lib.hid hb1; obtain ⟨r0, r1, r2, r3⟩ := (HB.out.of (hb1.block _ HB.out.lt)).cells; have hr2 := (hb1.block _ HRL.out).trans HR.out; have HL2 := Lib.hid (heap_lt hr2); clear hb1)
    have B2 := Lib.hid (hb0to B1.out (al_below w1 (.cells #[.int .i64 0, .int .i64 0] 23)))
    have hr3 := (B2.out.block _ HRL.out).trans HR.out
    have hn3 := World.alloc_heap_new w1 (.cells #[.int .i64 0, .int .i64 0] 23)
    obtain ⟨t0, t1, t2, t3⟩ := (HB.out.of (B2.out.block _ HB.out.lt)).cells
    generalize w1.alloc (.cells #[.int .i64 0, .int .i64 0] 23) = w2 at B2 hr3 hn3 t0 t1 t2 t3 ⊢
    have n0 : w2.cell? ⟨w1.heap.size, 0, none⟩ = some (.int .i64 0) := by simp [World.cell?, hn3]
    have n1 : w2.cell? ⟨w1.heap.size, 1, none⟩ = some (.int .i64 0) := by simp [World.cell?, hn3]
    have qr0 : w2.cell? ⟨w.heap.size + 1, 0, none⟩ = some (.int .i64 0) := by simp [World.cell?, hr3]
    have qr1 : w2.cell? ⟨w.heap.size + 1, 1, none⟩ = some (.int .i64 0) := by simp [World.cell?, hr3]
    have qf : ∀ o, w2.frozen? ⟨w.heap.size + 1, o, none⟩ = false := fun o => by simp [World.frozen?, hr3]
    go_wp2_with (fail)
    have hw3 : ((w2.setCell ⟨w.heap.size + 1, 0, none⟩ (.int .i64 0)).setCell ⟨w.heap.size + 1, 1, none⟩ (.int .i64 0)).heap[w.heap.size + 1]? = some (.cells #[.int .i64 0, .int .i64 0] 23) := heap_set (.int .i64 0) (heap_set (.int .i64 0) hr3)
    have B3 := Lib.hid ((((HBW.out.trans (B2.out.mono HBW.out.size)).setCell (p := ⟨w.heap.size + 1, 0, none⟩) (Nat.le_succ _) (.int .i64 0))).setCell (p := ⟨w.heap.size + 1, 1, none⟩) (Nat.le_succ _) (.int .i64 0))
    generalize (w2.setCell ⟨w.heap.size + 1, 0, none⟩ (.int .i64 0)).setCell ⟨w.heap.size + 1, 1, none⟩ (.int .i64 0) = w3 at hw3 B3 ⊢
    have rr0 : w3.cell? ⟨w.heap.size + 1, 0, none⟩ = some (.int .i64 0) := by simp [World.cell?, hw3]
    have rr1 : w3.cell? ⟨w.heap.size + 1, 1, none⟩ = some (.int .i64 0) := by simp [World.cell?, hw3]
    refine bodyPost_ret (by simp [results, Try.results54, go_sem, rr0, rr1]; try rfl) rfl ?_
    exact ⟨by rw [HQ.out], B3.out⟩
set_option maxRecDepth 100000 in
set_option maxHeartbeats 4000000 in
theorem rNeed_any (L : SL) (s : Sea) (hn : s.ps.length ≤ 1000) (k : Int) (w : World) (hH : SeaAt w w.heap.size L s) : Calls Try.prog 56 #[L.enc s, .int .i64 k] w fun e w' => e = .returned (.tuple #[.int .i64 (needRet s k).1, .int .i64 (needRet s k).2]) ∧ Below w.heap.size w w' := by
  have hbw := al_below w (.cells #[.int .i64 s.wl, .int .i64 s.wh, .slice L.Ap s.ps.length L.cp, .slice L.Ab s.bs.length L.cb] 27)
  have HB := Lib.hid (SBox.new w L s)
  obtain ⟨c0, c1, c2, c3⟩ := (SBox.new w L s).cells
  obtain ⟨W0, hW0⟩ : ∃ W0, w.alloc (.cells #[.int .i64 s.wl, .int .i64 s.wh, .slice L.Ap s.ps.length L.cp, .slice L.Ab s.bs.length L.cb] 27) = W0 := ⟨_, rfl⟩
  rw [hW0] at hbw HB c0 c1 c2 c3
  have HBW := Lib.hid hbw
  have HW0 := Lib.hid hW0
  have HH := Lib.hid (hH.below hbw)
  have HP := Lib.hid (fun W => rIsPlace_any L s k W hn)
  obtain ⟨is, his⟩ : ∃ b, b = inR k 0 (s.ps.length - 1) := ⟨_, rfl⟩
  rw [← his] at HP
  have H87 := Lib.hid (fun W hW => ask_any L s is W hW)
  by_cases h0 : askS s is = 0
  · obtain ⟨hv, hi⟩ := askS_ok h0
    have HS := Lib.hid (SOK.ofValid hv)
    have hk := inR_true.1 (his.symm.trans hi)
    have HQ := Lib.hid (show needRet s k = (needN s k.toNat, 0) by unfold needRet; rw [← his, if_neg (by simp [h0])])
    obtain ⟨kn, rfl⟩ : ∃ kn : Nat, k = kn := ⟨k.toNat, by omega⟩
    rw [h0] at H87
    have H89 := Lib.hid (fun W hW => rneed_any L s HS.out kn (by omega) W hW)
    rw [Int.toNat_natCast] at HQ
    generalize needN s kn = nd at H89 HQ
    clear hbw hW0 hH his hv h0 hk hn
    subst hi
    obtain ⟨Ap, cp, Ab, cb⟩ := L
    go_enter Try.func56, Try.ntmps56
    go_upto_region 1 with (fail)
    have e := HW0.out
    rw [e]
    clear e
    go_region_held3 (fun w' => w'.cell? ⟨w.heap.size, 0, none⟩ = some (.int .i64 s.wl) ∧ w'.cell? ⟨w.heap.size, 1, none⟩ = some (.int .i64 s.wh) ∧ w'.cell? ⟨w.heap.size, 2, none⟩ = some (.slice Ap s.ps.length cp) ∧ w'.cell? ⟨w.heap.size, 3, none⟩ = some (.slice Ab s.bs.length cb)) (first | go_keep)
      (first
        | (go_at_call 39; refine (HP.out _).mono ?_; rintro e w1 ⟨rfl, hb1⟩; have hk1 : Below W0.heap.size W0 w1 := (by first | exact hb1 | exact hb0to (drew_below W0) hb1); have B1 := Lib.hid hk1; obtain ⟨r0, r1, r2, r3⟩ := (HB.out.of (hk1.block _ HB.out.lt)).cells; clear hb1 hk1)
        | (go_at_call 87; refine (H87.out w1 (HH.out.below B1.out)).mono ?_; rintro e w2 ⟨rfl, hb2⟩; have B2 := Lib.hid (hb0to B1.out hb2); obtain ⟨t0, t1, t2, t3⟩ := (HB.out.of (B2.out.block _ HB.out.lt)).cells; clear hb2))
    all_goals
      go_wp2_with (go_at_call 89; refine (H89.out w2 (HH.out.below B2.out)).mono ?_; rintro e w4 ⟨rfl, hb4⟩; have B4 := Lib.hid (hb0to B2.out hb4); clear hb4)
      go_ret2
      exact ⟨by rw [HQ.out]; rfl, hb0to HBW.out B4.out⟩
  · have HQ := Lib.hid (show needRet s k = (0, askS s is) by unfold needRet; rw [← his, if_pos h0])
    have hd : (askS s is != 0) = true := bne_iff_ne.2 h0
    generalize askS s is = er at H87 HQ hd
    clear hbw hW0 hH his h0 hn
    obtain ⟨Ap, cp, Ab, cb⟩ := L
    go_enter Try.func56, Try.ntmps56
    go_upto_region 1 with (fail)
    have e := HW0.out
    rw [e]
    clear e
    go_region_held3 (fun w' => w'.cell? ⟨w.heap.size, 0, none⟩ = some (.int .i64 s.wl) ∧ w'.cell? ⟨w.heap.size, 1, none⟩ = some (.int .i64 s.wh) ∧ w'.cell? ⟨w.heap.size, 2, none⟩ = some (.slice Ap s.ps.length cp) ∧ w'.cell? ⟨w.heap.size, 3, none⟩ = some (.slice Ab s.bs.length cb)) (first | go_keep)
      (first
        | (go_at_call 39; refine (HP.out _).mono ?_; rintro e w1 ⟨rfl, hb1⟩; have hk1 : Below W0.heap.size W0 w1 := (by first | exact hb1 | exact hb0to (drew_below W0) hb1); have B1 := Lib.hid hk1; obtain ⟨r0, r1, r2, r3⟩ := (HB.out.of (hk1.block _ HB.out.lt)).cells; clear hb1 hk1)
        | (go_at_call 87; refine (H87.out w1 (HH.out.below B1.out)).mono ?_; rintro e w2 ⟨rfl, hb2⟩; have B2 := Lib.hid (hb0to B1.out hb2); obtain ⟨t0, t1, t2, t3⟩ := (HB.out.of (B2.out.block _ HB.out.lt)).cells; clear hb2))
    all_goals
      go_wp2_with (fail)
      go_ret2
      exact ⟨by rw [HQ.out]; rfl, hb0to HBW.out B2.out⟩
set_option maxRecDepth 100000 in
set_option maxHeartbeats 4000000 in
theorem rHolds_any (L : SL) (s : Sea) (n : Int) (v : List Int) (A : Option Addr) (cv : Nat) (hvl : v.length ≤ 1000) (w : World) (hH : SeaAt w w.heap.size L s) (hI : IntsAt w w.heap.size A v) : Calls Try.prog 50 #[L.enc s, .int .i64 n, .slice A v.length cv] w fun e w' => e = .returned (.tuple #[.bool (holdsRet s n v).1, .int .i64 (holdsRet s n v).2]) ∧ Below w.heap.size w w' := by
  have hbw := al_below w (.cells #[.int .i64 s.wl, .int .i64 s.wh, .slice L.Ap s.ps.length L.cp, .slice L.Ab s.bs.length L.cb] 27)
  have HB := Lib.hid (SBox.new w L s)
  obtain ⟨c0, c1, c2, c3⟩ := (SBox.new w L s).cells
  obtain ⟨W0, hW0⟩ : ∃ W0, w.alloc (.cells #[.int .i64 s.wl, .int .i64 s.wh, .slice L.Ap s.ps.length L.cp, .slice L.Ab s.bs.length L.cb] 27) = W0 := ⟨_, rfl⟩
  rw [hW0] at hbw HB c0 c1 c2 c3
  have HBW := Lib.hid hbw
  have HW0 := Lib.hid hW0
  have HH := Lib.hid (hH.below hbw)
  have HI := Lib.hid (ints_later hI hbw)
  have HK := Lib.hid (rcheck_any L s W0 HH.out)
  rw [ckS_ask] at HK
  by_cases h0 : askS s true = 0
  · rw [h0] at HK
    have hS := SOK.ofValid (askS_ok h0).1
    have H30 := Lib.hid (fun W hW hI => areParts_any L s hS v A cv hvl W hW hI)
    have HQ := Lib.hid (show holdsRet s n v = (inR n s.wl s.wh && partsB s v, 0) by unfold holdsRet; rw [if_neg (by simp [h0])]; unfold holdsB partsB; simp only [Bool.and_assoc])
    rw [HQ.out]
    have H77 := Lib.hid (fun W => rwithin_any n s.wl s.wh W)
    clear hbw hW0 hH hS h0 hI
    generalize partsB s v = pb at H30
    obtain ⟨Ap, cp, Ab, cb⟩ := L
    cases hb : inR n s.wl s.wh
    all_goals
      rw [hb] at H77
      clear hb
      go_enter Try.func50, Try.ntmps50
      go_upto_region 1 with (fail)
      have e := HW0.out
      rw [e]
      clear e
      go_wp2_with (first
        | (go_at_call 52; refine HK.out.mono ?_; rintro e w1 ⟨rfl, hb1⟩; have B1 := Lib.hid hb1; obtain ⟨r0, r1, r2, r3⟩ := (HB.out.of (hb1.block _ HB.out.lt)).cells; clear hb1)
        | (go_at_call 77; refine (H77.out _).mono ?_; rintro e w' ⟨rfl, rfl⟩)
        | (go_at_call 30; refine (H30.out w1 (HH.out.below B1.out) (ints_later HI.out B1.out)).mono ?_; rintro e w2 ⟨rfl, hb2⟩; have B1 := Lib.hid (hb0to B1.out hb2); clear hb2))
      go_ret2
      exact ⟨rfl, hb0to HBW.out B1.out⟩
  · have HQ := Lib.hid (show holdsRet s n v = (false, askS s true) by unfold holdsRet; rw [if_pos h0])
    have hd : (askS s true != 0) = true := by simp [h0]
    rw [HQ.out]
    generalize askS s true = er at HK hd
    clear hbw hW0 hH h0 hI
    obtain ⟨Ap, cp, Ab, cb⟩ := L
    go_enter Try.func50, Try.ntmps50
    go_upto_region 1 with (fail)
    have e := HW0.out
    rw [e]
    clear e
    go_wp2_with (go_at_call 52; refine HK.out.mono ?_; rintro e w1 ⟨rfl, hb1⟩; have B1 := Lib.hid hb1; clear hb1)
    go_ret2
    exact ⟨rfl, hb0to HBW.out B1.out⟩
end Go.Proofs.Ytgjpllmmpclgaaa
