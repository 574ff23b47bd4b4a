import Derived.Test.YtmconopnplgcfaaPP
namespace Go.Proofs.Ytmconopnplgcfaa
open Go.RowKit

/-! Packed 62. -/
def packF (f : Fair) (p : List Int) : Fair := { f with pk := p }
set_option maxRecDepth 100000 in
set_option maxHeartbeats 4000000 in
theorem packed62_any (F : FL) (f : Fair) (hn : FN f) (hok : FLOK F f) (p : List Int) (hp : p.length ≤ 1000) (A : Option Addr) (c : Nat) (hA : A = none → c = 0 ∧ p = []) (w : World) (hF : FairAt w w.heap.size F f) (hI : IntsAt w w.heap.size A p) :
    Calls Try.prog 62 #[F.enc f, .slice A p.length c] w fun e w' => CopRet (packF f p) w.heap.size w' e ∧ Below w.heap.size w w' := by
  obtain ⟨W0, hW0⟩ : ∃ W0, (w.alloc (.cells #[.slice F.L.Ak f.h.ks.length F.L.ck, .int .i64 f.h.fl, .slice F.L.Ap f.h.ps.length F.L.cp, .slice F.L.Ab f.h.bs.length F.L.cb, .slice F.Ap f.pk.length F.cp, .int .i64 f.day, .int .i64 f.nb, .slice F.Aq f.q.length F.cq] 29)).alloc (.cells #[.slice none 0 0, .int .i64 0, .slice none 0 0, .slice none 0 0, .slice none 0 0, .int .i64 0, .int .i64 0, .slice none 0 0] 29) = W0 := ⟨_, rfl⟩
  have hb0 : Below w.heap.size w W0 := by rw [← hW0]; exact hb0to (al_below _ _) (al_below _ _)
  have hx0 : FBox W0 w.heap.size F f := (FBox.new w F f).of (by rw [← hW0]; exact Below.heap_alloc _ _ _ (by simp))
  have hr0 : W0.heap[w.heap.size + 1]? = some (.cells #[.slice none 0 0, .int .i64 0, .slice none 0 0, .slice none 0 0, .slice none 0 0, .int .i64 0, .int .i64 0, .slice none 0 0] 29) := by rw [← hW0]; exact heap_new2 _ _ _
  have hs0 : w.heap.size + 2 ≤ W0.heap.size := heap_lt hr0
  have HW0 := Lib.hid hW0
  have HBW := Lib.hid hb0
  have HB := Lib.hid hx0
  have HR := Lib.hid hr0
  have HN := Lib.hid hn
  have HF := Lib.hid (hF.below hb0)
  have HC := Lib.hid (copy_line F f hn hok W0 HF.out)
  obtain ⟨c0, c1, c2, c3, c4, c5, c6, c7⟩ := hx0.cells
  clear hW0 hb0 hx0 hr0 hn hok hF
  obtain ⟨L, Ap, cp, Aq, cq⟩ := F
  have HI := Lib.hid (ints_later hI HBW.out)
  have HA := Lib.hid hA
  have HLL := Lib.hid hp
  clear hI hA hp
  go_enter Try.func62, Try.ntmps62
  go_upto_region 1 with (fail)
  have e := HW0.out
  rw [e]
  clear e
  go_upto_region 2 with (go_at_call 33; refine HC.out.mono ?_; rintro e w1 ⟨⟨⟨L', A', c', A9, c9⟩, rfl, hcf, hq⟩, hb1⟩; have B1 := Lib.hid hb1; have HCF := Lib.hid hcf; have HQ := Lib.hid hq; have hr := (hb1.block _ (heap_lt HR.out)).trans HR.out; have HRr := Lib.hid hr; have r0 := cell_of_heap (o := 0) hr rfl; have r1 := cell_of_heap (o := 1) hr rfl; have r2 := cell_of_heap (o := 2) hr rfl; have r3 := cell_of_heap (o := 3) hr rfl; have r4 := cell_of_heap (o := 4) hr rfl; have r5 := cell_of_heap (o := 5) hr rfl; have r6 := cell_of_heap (o := 6) hr rfl; have r7 := cell_of_heap (o := 7) hr rfl; have rf := frozen_of_heap hr; have s1 := B1.out.size; have n0 : ¬ w1.heap.size = w.heap.size + 1 := (by omega); have n1 : ¬ w.heap.size + 1 = w1.heap.size := (by omega); have n2 : w.heap.size + 1 < w1.heap.size := (by omega); clear hcf hq hb1 hr)
  obtain ⟨Wb, hWb⟩ : ∃ W, w1.alloc (.cells #[.slice L'.Ak f.h.ks.length L'.ck, .int .i64 f.h.fl, .slice L'.Ap f.h.ps.length L'.cp, .slice L'.Ab f.h.bs.length L'.cb, .slice A' f.pk.length c', .int .i64 f.day, .int .i64 f.nb, .slice A9 f.q.length c9] 29) = W := ⟨_, rfl⟩
  have hz : Wb.heap[w1.heap.size]? = some (.cells #[.slice L'.Ak f.h.ks.length L'.ck, .int .i64 f.h.fl, .slice L'.Ap f.h.ps.length L'.cp, .slice L'.Ab f.h.bs.length L'.cb, .slice A' f.pk.length c', .int .i64 f.day, .int .i64 f.nb, .slice A9 f.q.length c9] 29) := by rw [← hWb]; exact heap_new1 _ _
  have hbb : Below w1.heap.size w1 Wb := by rw [← hWb]; exact al_below _ _
  rw [hWb]
  have HZ := Lib.hid hz
  have HG := Lib.hid (HCF.out.below hbb)
  have HQ1 := Lib.hid (OwnsQ.belowO HQ.out hbb)
  have BB := Lib.hid (hb0to B1.out hbb)
  have BI := Lib.hid (hb0to BB.out (al_below Wb (.cells #[] 3)))
  have HI2 := Lib.hid (ints_later HI.out BI.out)
  have hs1 := HBW.out.size
  have hs2 := B1.out.size
  have hzr : ¬ w1.heap.size = w.heap.size + 1 := by omega
  have hzr2 : ¬ w.heap.size + 1 = w1.heap.size := by omega
  clear hz hbb hWb HC HCF HQ HRr r0 r1 r2 r3 r4 r5 r6 r7 rf c0 c1 c2 c3 c4 c5 c6 c7
  go_upto_region 3 with (refine wpl_copyI (by rfl) _ _ (by rfl) Wb.heap.size _ [] (by rfl) (ints_made Wb Wb.heap.size (Nat.le_refl _)) A c p HA.out (by rfl) HI2.out (by simp) HLL.out (by simp) ?_; intro v3 w3 h1 h2; have hb3 := (al_below Wb (.cells #[] 3)).trans h2; have B3 := Lib.hid (hb0to BB.out hb3); have hz3 := (hb3.block _ (heap_lt HZ.out)).trans HZ.out; have HZ3 := Lib.hid hz3; have z4 := cell_of_heap (o := 4) hz3 rfl; have zf := frozen_of_heap hz3; have HG3 := Lib.hid (HG.out.below hb3); have HQ3 := Lib.hid (HQ1.out.belowO hb3); have I3 := Lib.hid (show Ints w3 Wb.heap.size v3 p from h1); obtain ⟨A3, k3, rfl, -, -, -⟩ := (show Ints w3 Wb.heap.size v3 p from h1).lay; have s3 := hb3.size; clear h1 h2 hb3 hz3)
  obtain ⟨W4, hW4⟩ : ∃ W, w3.setCell ⟨w1.heap.size, 4, none⟩ (.slice A3 p.length k3) = W := ⟨_, rfl⟩
  rw [hW4]
  have hz4 : W4.heap[w1.heap.size]? = some (.cells #[.slice L'.Ak f.h.ks.length L'.ck, .int .i64 f.h.fl, .slice L'.Ap f.h.ps.length L'.cp, .slice L'.Ab f.h.bs.length L'.cb, .slice A3 p.length k3, .int .i64 f.day, .int .i64 f.nb, .slice A9 f.q.length c9] 29) := by rw [← hW4, heap_set (o := 4) (.slice A3 p.length k3) HZ3.out]; simp
  have hb4 : Below W0.heap.size W0 W4 := by rw [← hW4]; exact B3.out.setCell (p := ⟨w1.heap.size, 4, none⟩) (by show W0.heap.size ≤ w1.heap.size; omega) _
  have hsb : W0.heap.size ≤ Wb.heap.size := BB.out.size
  have HG4 : Hid (CopF W4 W0.heap.size ⟨L', A3, k3, A9, c9⟩ (packF f p)) := Lib.hid (by
    rw [← hW4]
    exact (show CopF w3 W0.heap.size ⟨L', A3, k3, A9, c9⟩ (packF f p) from ⟨HG3.out.h, I3.out.mono hsb⟩).set HZ3.out (by decide) (by decide) (by decide))
  have HQ4 : Hid (OwnsQ InnOwn W4 W0.heap.size (.slice A9 f.q.length c9) f.q) := Lib.hid (by
    rw [← hW4]
    exact HQ3.out.keepO (KeepT.set HZ3.out (by decide)) (KeepT.set HZ3.out (by decide)))
  have hr := (hb4.block _ (heap_lt HR.out)).trans HR.out
  have HRr := Lib.hid hr
  have B4 := Lib.hid hb4
  have r0 := cell_of_heap (o := 0) hr rfl
  have r1 := cell_of_heap (o := 1) hr rfl
  have r2 := cell_of_heap (o := 2) hr rfl
  have r3 := cell_of_heap (o := 3) hr rfl
  have r4 := cell_of_heap (o := 4) hr rfl
  have r5 := cell_of_heap (o := 5) hr rfl
  have r6 := cell_of_heap (o := 6) hr rfl
  have r7 := cell_of_heap (o := 7) hr rfl
  have rf := frozen_of_heap hr
  have y0 := cell_of_heap (o := 0) hz4 rfl
  have y1 := cell_of_heap (o := 1) hz4 rfl
  have y2 := cell_of_heap (o := 2) hz4 rfl
  have y3 := cell_of_heap (o := 3) hz4 rfl
  have y4 := cell_of_heap (o := 4) hz4 rfl
  have y5 := cell_of_heap (o := 5) hz4 rfl
  have y6 := cell_of_heap (o := 6) hz4 rfl
  have y7 := cell_of_heap (o := 7) hz4 rfl
  clear hW4 hz4 hb4 hr z4 zf HZ HZ3 HG HG3 HQ1 HQ3 I3 HI HI2
  go_wp2_with (fail)
  have e := set8_heap HRr.out (.slice L'.Ak f.h.ks.length L'.ck) (.int .i64 f.h.fl) (.slice L'.Ap f.h.ps.length L'.cp) (.slice L'.Ab f.h.bs.length L'.cb) (.slice A3 p.length k3) (.int .i64 f.day) (.int .i64 f.nb) (.slice A9 f.q.length c9)
  refine bodyPost_ret (results_cell rfl rfl (load29 (cell_of_heap (o := 0) e rfl) (cell_of_heap (o := 1) e rfl) (cell_of_heap (o := 2) e rfl) (cell_of_heap (o := 3) e rfl) (cell_of_heap (o := 4) e rfl) (cell_of_heap (o := 5) e rfl) (cell_of_heap (o := 6) e rfl) (cell_of_heap (o := 7) e rfl))) rfl ⟨⟨⟨L', A3, k3, A9, c9⟩, rfl, ?_, ?_⟩, ?_⟩
  · exact (CopF.mono HG4.out hs1).keepT (keepT_set8 HRr.out (by decide) _ _ _ _ _ _ _ _) (keepT_set8 HRr.out (by decide) _ _ _ _ _ _ _ _) (keepT_set8 HRr.out (by decide) _ _ _ _ _ _ _ _)
  · exact (OwnsQ.mono HQ4.out hs1).keepO (keepT_set8 HRr.out (by decide) _ _ _ _ _ _ _ _) (keepT_set8 HRr.out (by decide) _ _ _ _ _ _ _ _)
  · exact below_set8 (hb0to HBW.out B4.out) (by omega) _ _ _ _ _ _ _ _

end Go.Proofs.Ytmconopnplgcfaa
