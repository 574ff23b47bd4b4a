import Derived.Test.YtmconopnplgcfaaRS
namespace Go.Proofs.Ytmconopnplgcfaa
open Go.RowKit

/-! OnDay 28. -/
/-- A copy: what a function that copies returns. -/
def CopRet (f : Fair) (n : Nat) (w' : World) (e : Ending) : Prop := ∃ F', e = .returned (F'.enc f) ∧ CopF w' n F' f ∧ OwnsQ InnOwn w' n (.slice F'.Aq f.q.length F'.cq) f.q
theorem CopRet.fair {f : Fair} {n : Nat} {w' : World} {F' : FL} (h : CopF w' n F' f) (hq : OwnsQ InnOwn w' n (.slice F'.Aq f.q.length F'.cq) f.q) : FairAt w' w'.heap.size F' f ∧ FLOK F' f := by
  obtain ⟨A, c, e, h1, h2, h3⟩ := hq.layO
  injection e with e1 e2 e3
  have hp := ints_at h.p
  refine ⟨⟨h.h.house, hp.1.at_, ?_⟩, ⟨h.h.ok, hp.2.1, ?_⟩⟩
  · rw [e1]; exact h2
  · rw [e1, e3]; exact h1
def dayF (f : Fair) (d : Int) : Fair := { f with day := d }
set_option maxRecDepth 100000 in
set_option maxHeartbeats 4000000 in
theorem onDay_any (F : FL) (f : Fair) (hn : FN f) (hok : FLOK F f) (d : Int) (w : World) (hF : FairAt w w.heap.size F f) :
    Calls Try.prog 28 #[F.enc f, .int .i64 d] w fun e w' => CopRet (dayF f d) w.heap.size w' e ∧ Below w.heap.size w w' := by
  obtain ⟨W0, hW0⟩ : ∃ W0, (w.alloc (.cells #[.slice F.L.Ak f.h.ks.length F.L.ck, .int .i64 f.h.fl, .slice F.L.Ap f.h.ps.length F.L.cp, .slice F.L.Ab f.h.bs.length F.L.cb, .slice F.Ap f.pk.length F.cp, .int .i64 f.day, .int .i64 f.nb, .slice F.Aq f.q.length F.cq] 29)).alloc (.cells #[.slice none 0 0, .int .i64 0, .slice none 0 0, .slice none 0 0, .slice none 0 0, .int .i64 0, .int .i64 0, .slice none 0 0] 29) = W0 := ⟨_, rfl⟩
  have hb0 : Below w.heap.size w W0 := by rw [← hW0]; exact hb0to (al_below _ _) (al_below _ _)
  have hx0 : FBox W0 w.heap.size F f := (FBox.new w F f).of (by rw [← hW0]; exact Below.heap_alloc _ _ _ (by simp))
  have hr0 : W0.heap[w.heap.size + 1]? = some (.cells #[.slice none 0 0, .int .i64 0, .slice none 0 0, .slice none 0 0, .slice none 0 0, .int .i64 0, .int .i64 0, .slice none 0 0] 29) := by rw [← hW0]; exact heap_new2 _ _ _
  have hs0 : w.heap.size + 2 ≤ W0.heap.size := heap_lt hr0
  have HW0 := Lib.hid hW0
  have HBW := Lib.hid hb0
  have HB := Lib.hid hx0
  have HR := Lib.hid hr0
  have HN := Lib.hid hn
  have HF := Lib.hid (hF.below hb0)
  have HC := Lib.hid (copy_line F f hn hok W0 HF.out)
  obtain ⟨c0, c1, c2, c3, c4, c5, c6, c7⟩ := hx0.cells
  clear hW0 hb0 hx0 hr0 hn hok hF
  obtain ⟨L, Ap, cp, Aq, cq⟩ := F
  go_enter Try.func28, Try.ntmps28
  go_upto_region 1 with (fail)
  have e := HW0.out
  rw [e]
  clear e
  go_wp2_with (go_at_call 33; refine HC.out.mono ?_; rintro e w1 ⟨⟨⟨L', A', c', A9, c9⟩, rfl, hcf, hq⟩, hb1⟩; have B1 := Lib.hid hb1; have HCF := Lib.hid hcf; have HQ := Lib.hid hq; have hr := (hb1.block _ (heap_lt HR.out)).trans HR.out; have HRr := Lib.hid hr; have r0 := cell_of_heap (o := 0) hr rfl; have r1 := cell_of_heap (o := 1) hr rfl; have r2 := cell_of_heap (o := 2) hr rfl; have r3 := cell_of_heap (o := 3) hr rfl; have r4 := cell_of_heap (o := 4) hr rfl; have r5 := cell_of_heap (o := 5) hr rfl; have r6 := cell_of_heap (o := 6) hr rfl; have r7 := cell_of_heap (o := 7) hr rfl; have rf := frozen_of_heap hr; have s1 := B1.out.size; have n0 : ¬ w1.heap.size = w.heap.size + 1 := (by omega); have n1 : ¬ w.heap.size + 1 = w1.heap.size := (by omega); have n2 : w.heap.size + 1 < w1.heap.size := (by omega); clear hcf hq hb1 hr)
  have e := set8_heap HRr.out (.slice L'.Ak f.h.ks.length L'.ck) (.int .i64 f.h.fl) (.slice L'.Ap f.h.ps.length L'.cp) (.slice L'.Ab f.h.bs.length L'.cb) (.slice A' f.pk.length c') (.int .i64 d) (.int .i64 f.nb) (.slice A9 f.q.length c9)
  have e2 := heap_keep (o' := .cells #[.slice L'.Ak f.h.ks.length L'.ck, .int .i64 f.h.fl, .slice L'.Ap f.h.ps.length L'.cp, .slice L'.Ab f.h.bs.length L'.cb, .slice A' f.pk.length c', .int .i64 d, .int .i64 f.nb, .slice A9 f.q.length c9] 29) e
  have hs1 := HBW.out.size
  refine bodyPost_ret (results_cell rfl rfl (load29 (cell_of_heap (o := 0) e2 rfl) (cell_of_heap (o := 1) e2 rfl) (cell_of_heap (o := 2) e2 rfl) (cell_of_heap (o := 3) e2 rfl) (cell_of_heap (o := 4) e2 rfl) (cell_of_heap (o := 5) e2 rfl) (cell_of_heap (o := 6) e2 rfl) (cell_of_heap (o := 7) e2 rfl))) rfl ⟨⟨⟨L', A', c', A9, c9⟩, rfl, ?_, ?_⟩, ?_⟩
  · exact ((CopF.mono (show CopF w1 W0.heap.size ⟨L', A', c', A9, c9⟩ (dayF f d) from ⟨HCF.out.h, HCF.out.p⟩) hs1).keepT (keepT_set8 HRr.out (by decide) _ _ _ _ _ _ _ _) (keepT_set8 HRr.out (by decide) _ _ _ _ _ _ _ _) (keepT_set8 HRr.out (by decide) _ _ _ _ _ _ _ _)).below (al_below _ _)
  · exact ((OwnsQ.mono HQ.out hs1).keepO (keepT_set8 HRr.out (by decide) _ _ _ _ _ _ _ _) (keepT_set8 HRr.out (by decide) _ _ _ _ _ _ _ _)).belowO (al_below _ _)
  · exact hb0to (below_set8 (hb0to HBW.out B1.out) (by omega) _ _ _ _ _ _ _ _) (al_below _ _)

end Go.Proofs.Ytmconopnplgcfaa
