import Derived.Test.YtmconopnplgcfaaPP
namespace Go.Proofs.Ytmconopnplgcfaa
open Go.RowKit

/-! Without 26. -/
theorem chainN {n m : Nat} {w X W : World} (_ : Below m X W) (h : Below n w X) : Below n w X := h
theorem kept_no {a : Int} {q : List Bid} {k : Nat} {x : Bid} (hx : q[k]? = some x) (h : x.who = a) : keptQ a (q.take (k + 1)) = keptQ a (q.take k) := by
  rw [← take_snoc_next hx]
  unfold keptQ
  rw [List.filter_append]
  simp [h]
theorem kept_yes {a : Int} {q : List Bid} {k : Nat} {x : Bid} (hx : q[k]? = some x) (h : x.who ≠ a) : keptQ a (q.take (k + 1)) = keptQ a (q.take k) ++ [x] := by
  rw [← take_snoc_next hx]
  unfold keptQ
  rw [List.filter_append]
  simp [h]
theorem readFair {Wf : World} {n b : Nat} {F : FL} {g : Fair} (h1 : CopF Wf b F g) (h2 : OwnsQ (InnAt n) Wf b (.slice F.Aq g.q.length F.cq) g.q) (hn : n ≤ Wf.heap.size) : FairAt Wf Wf.heap.size F g := by
  obtain ⟨A6, c6, eq, -, h3, -⟩ := h2.lay (fun u l hu => hu.at_ hn)
  injection eq with e1 e2 e3
  subst e1
  exact ⟨h1.h.house, (ints_at h1.p).1.at_, h3⟩
/-- What Without returns: a fair that can be read. -/
def ReadRet (g : Fair) (w' : World) (e : Ending) : Prop := ∃ F', e = .returned (F'.enc g) ∧ FairAt w' w'.heap.size F' g
set_option maxRecDepth 100000 in
set_option maxHeartbeats 4000000 in
theorem without_any (F : FL) (f : Fair) (hn : FN f) (hok : FLOK F f) (a : Int) (w : World) (hF : FairAt w w.heap.size F f) :
    Calls Try.prog 26 #[F.enc f, .int .i64 a] w fun e w' => ReadRet (withoutF f a) w' e ∧ Below w.heap.size w w' := by
  have HF0 := Lib.hid hF
  obtain ⟨W0, hW0⟩ : ∃ W0, (w.alloc (.cells #[.slice F.L.Ak f.h.ks.length F.L.ck, .int .i64 f.h.fl, .slice F.L.Ap f.h.ps.length F.L.cp, .slice F.L.Ab f.h.bs.length F.L.cb, .slice F.Ap f.pk.length F.cp, .int .i64 f.day, .int .i64 f.nb, .slice F.Aq f.q.length F.cq] 29)).alloc (.cells #[.slice none 0 0, .int .i64 0, .slice none 0 0, .slice none 0 0, .slice none 0 0, .int .i64 0, .int .i64 0, .slice none 0 0] 29) = W0 := ⟨_, rfl⟩
  have hb0 : Below w.heap.size w W0 := by rw [← hW0]; exact hb0to (al_below _ _) (al_below _ _)
  have hx0 : FBox W0 w.heap.size F f := (FBox.new w F f).of (by rw [← hW0]; exact Below.heap_alloc _ _ _ (by simp))
  have hr0 : W0.heap[w.heap.size + 1]? = some (.cells #[.slice none 0 0, .int .i64 0, .slice none 0 0, .slice none 0 0, .slice none 0 0, .int .i64 0, .int .i64 0, .slice none 0 0] 29) := by rw [← hW0]; exact heap_new2 _ _ _
  have hs0 : w.heap.size + 2 ≤ W0.heap.size := heap_lt hr0
  have HW0 := Lib.hid hW0
  have HBW := Lib.hid hb0
  have HB := Lib.hid hx0
  have HR := Lib.hid hr0
  have HN := Lib.hid hn
  have HF := Lib.hid (hF.below hb0)
  have HC := Lib.hid (copy_line F f hn hok W0 HF.out)
  obtain ⟨c0, c1, c2, c3, c4, c5, c6, c7⟩ := hx0.cells
  clear hW0 hb0 hx0 hr0 hn hok hF
  obtain ⟨L, Ap, cp, Aq, cq⟩ := F
  go_enter Try.func26, Try.ntmps26
  go_upto_region 1 with (fail)
  have e := HW0.out
  rw [e]
  clear e

  go_upto_region 4 with (go_at_call 33; refine HC.out.mono ?_; rintro e w1 ⟨⟨⟨L', A', c', A9, c9⟩, rfl, hcf, hq⟩, hb1⟩; have B1 := Lib.hid hb1; have HCF := Lib.hid hcf; have HQ := Lib.hid hq; have hr := (hb1.block _ (heap_lt HR.out)).trans HR.out; have HRr := Lib.hid hr; have r0 := cell_of_heap (o := 0) hr rfl; have r1 := cell_of_heap (o := 1) hr rfl; have r2 := cell_of_heap (o := 2) hr rfl; have r3 := cell_of_heap (o := 3) hr rfl; have r4 := cell_of_heap (o := 4) hr rfl; have r5 := cell_of_heap (o := 5) hr rfl; have r6 := cell_of_heap (o := 6) hr rfl; have r7 := cell_of_heap (o := 7) hr rfl; have rf := frozen_of_heap hr; have s1 := B1.out.size; have n0 : ¬ w1.heap.size = w.heap.size + 1 := (by omega); have n1 : ¬ w.heap.size + 1 = w1.heap.size := (by omega); have n2 : w.heap.size + 1 < w1.heap.size := (by omega); clear hcf hq hb1 hr)
  obtain ⟨Wb, hWb⟩ : ∃ W, w1.alloc (.cells #[.slice L'.Ak f.h.ks.length L'.ck, .int .i64 f.h.fl, .slice L'.Ap f.h.ps.length L'.cp, .slice L'.Ab f.h.bs.length L'.cb, .slice A' f.pk.length c', .int .i64 f.day, .int .i64 f.nb, .slice none 0 0] 29) = W := ⟨_, rfl⟩
  have hz : Wb.heap[w1.heap.size]? = some (.cells #[.slice L'.Ak f.h.ks.length L'.ck, .int .i64 f.h.fl, .slice L'.Ap f.h.ps.length L'.cp, .slice L'.Ab f.h.bs.length L'.cb, .slice A' f.pk.length c', .int .i64 f.day, .int .i64 f.nb, .slice none 0 0] 29) := by rw [← hWb]; exact heap_new1 _ _
  have hbb : Below w1.heap.size w1 Wb := by rw [← hWb]; exact al_below _ _
  rw [hWb]
  have HZ := Lib.hid (show CBox Wb w1.heap.size ⟨L', A', c', A9, c9⟩ f (.slice none 0 0) from hz)
  have HG := Lib.hid (HCF.out.below hbb)
  have BB := Lib.hid (hb0to B1.out hbb)
  have hs1 := HBW.out.size
  have hs2 := B1.out.size
  have hzr : ¬ w1.heap.size = w.heap.size + 1 := by omega
  have hzr2 : ¬ w.heap.size + 1 = w1.heap.size := by omega
  have hzw : ¬ w1.heap.size = w.heap.size := by omega
  have hzw2 : ¬ w.heap.size = w1.heap.size := by omega
  clear hz hbb hWb HC HCF HQ HRr r0 r1 r2 r3 r4 r5 r6 r7 rf c0 c1 c2 c3 c4 c5 c6 c7
  go_loopw [6] (fun i wr => ∃ k : Nat, k ≤ f.q.length ∧ i = .int .i64 k ∧ (∃ v, Hid (CBox wr w1.heap.size ⟨L', A', c', A9, c9⟩ f v) ∧ Hid (CopF wr W0.heap.size ⟨L', A', c', A9, c9⟩ f) ∧ Hid (OwnsQ (InnAt w.heap.size) wr W0.heap.size v (keptQ a (f.q.take k)))) ∧ Hid (Below W0.heap.size W0 wr)) (fun i _ => f.q.length - (intOf i).toNat)
  case atStart => exact ⟨0, Nat.zero_le _, rfl, ⟨_, HZ, HG, Lib.hid (ownsQ_nil _ _ _)⟩, BB⟩
  case round =>
    obtain ⟨k, hk, rfl, ⟨v, HO, HG, HQ⟩, HBr⟩ := hrel
    obtain ⟨c0, c1, c2, c3, c4, c5, c6, c7⟩ := (HB.out.of (HBr.out.block _ HB.out.lt)).cells
    obtain ⟨z0, z1, z2, z3, z4, z5, z6, z7⟩ := HO.out.cells
    have zf := frozen_of_heap HO.out
    have hq1000 := HN.out.q
    by_cases hlt : k < f.q.length
    · obtain ⟨x, hx⟩ : ∃ x, f.q[k]? = some x := ⟨_, List.getElem?_eq_getElem hlt⟩
      obtain ⟨bk, ok, A2, c2', rfl, hbk, d1, d2, d3, hA2, hI⟩ := HF0.out.q.at_ hx
      have hbwr := hb0to HBW.out HBr.out
      have e1 := (hbwr.cell (p := ⟨bk, ok + k * 3, none⟩) hbk).trans d1
      have e2 := (hbwr.cell (p := ⟨bk, ok + k * 3 + 1, none⟩) hbk).trans d2
      have e3 := (hbwr.cell (p := ⟨bk, ok + k * 3 + 2, none⟩) hbk).trans d3
      have HI := Lib.hid (hI.keep (Nat.le_refl _) fun b o hlt => hbwr.cell (p := ⟨b, o, none⟩) hlt)
      have HA2 := Lib.hid hA2
      have hbkz : ¬ bk = w1.heap.size := by omega
      have hbkw : ¬ w1.heap.size = bk := by omega
      have hzl : w1.heap.size < wr.heap.size := HO.out.lt
      have hwl : w.heap.size < wr.heap.size := by omega
      have hbl : bk < wr.heap.size := by omega
      have m1 : ¬ bk = wr.heap.size := by omega
      have m2 : ¬ wr.heap.size = bk := by omega
      have m3 : ¬ w1.heap.size = wr.heap.size := by omega
      have m4 : ¬ wr.heap.size = w1.heap.size := by omega
      have m5 : ¬ w.heap.size = wr.heap.size := by omega
      have m6 : ¬ wr.heap.size = w.heap.size := by omega
      have hwr : W0.heap.size ≤ wr.heap.size := HBr.out.size
      have hql : (keptQ a (f.q.take k)).length ≤ 1000 := by
        have h1 : (keptQ a (f.q.take k)).length ≤ (f.q.take k).length := List.length_filter_le _ _
        rw [List.length_take] at h1
        omega
      clear d1 d2 d3 hI hA2 hbwr c0 c1 c2 c3 c4 c5 c6 z0 z1 z2 z3 z4 z5 z6
      by_cases hwho : x.who = a
      · have hd : (x.who != a) = false := bne_eq_false_iff_eq.2 hwho
        have HKN := Lib.hid (kept_no hx hwho)
        have HQ1 := Lib.hid (show OwnsQ (InnAt w.heap.size) wr W0.heap.size v (keptQ a (f.q.take (k + 1))) by rw [HKN.out]; exact HQ.out)
        clear hx hwho
        go_wp2_with (fail)
        go_roundw
        case rel => exact ⟨k + 1, by omega, by go_num, ⟨_, HO, HG, HQ1⟩, HBr⟩
        case measure => simp [intOf]; omega
      · have hd : (x.who != a) = true := bne_iff_ne.2 hwho
        have HKN := Lib.hid (kept_yes hx hwho)
        clear hx hwho
        go_wp2_with (fail)
        go_region_law
          (first
            | (refine step_appQ (by rfl) (.tmp 26) (.tmp 32) (by rfl) (InnAt w.heap.size) W0.heap.size v (keptQ a (f.q.take k)) (by rfl) (HQ.out.keepA (KeepT.below (by first | exact al_below _ _ | exact rows_below1 _ _)) ((show Below wr.heap.size wr _ by first | exact al_below _ _ | exact rows_below1 _ _).mono (by omega))) wr.heap.size 1 x A2 c2' (by rfl) (by simp [go_sem]) (by simp [go_sem]) (by simp [go_sem]) hql (by simp; omega) (fun w' hb' hk' => ⟨⟨A2, c2', rfl, HA2.out, HI.out.keep (Nat.le_refl _) fun b o hlt => (Below.trans ((show Below wr.heap.size wr _ by first | exact al_below _ _ | exact rows_below1 _ _).mono (show w.heap.size ≤ _ by omega)) (hb'.mono (show w.heap.size ≤ _ by omega))).cell (p := ⟨b, o, none⟩) hlt⟩, fun u l ⟨A7, c7, q1, q2, q3⟩ => ⟨A7, c7, q1, q2, q3.keep (Nat.le_refl _) fun b o hlt => (hb'.mono (show w.heap.size ≤ _ by omega)).cell (p := ⟨b, o, none⟩) hlt⟩⟩) ?_; intro v5 w5 ho5 hb5 hk5; have hbX := chainN hb5 (n := wr.heap.size) (w := wr) (by first | exact al_below _ _ | exact rows_below1 _ _); have BX := Lib.hid hbX; clear hbX; have B5 : Hid (Below W0.heap.size W0 w5) := Lib.hid (Below.trans (hb0to HBr.out BX.out) hb5); obtain ⟨A5, k5, rfl, -, -, -⟩ := ho5.lay (fun u l hu => hu.at_ (by have := B5.out.size; omega)); have HO5 := Lib.hid (show CBox w5 w1.heap.size ⟨L', A', c', A9, c9⟩ f v from hk5 29 (by decide) _ _ ((HO.out.of (BX.out.block _ HO.out.lt)))); have HG5 := Lib.hid ((HG.out.below BX.out).keepT (hk5 97 (by decide)) (hk5 99 (by decide)) (hk5 3 (by decide))); have HQ5 := Lib.hid ho5; have c7 := (HB.out.of (B5.out.block _ HB.out.lt)).cells.2.2.2.2.2.2.2; have z7 := HO5.out.cells.2.2.2.2.2.2.2; have zf := frozen_of_heap HO5.out; clear ho5 hb5 hk5))
        all_goals
          go_wp2_with (fail)
          have hq5 := HQ5.out
          rw [List.length_append, ← HKN.out] at hq5
          go_roundw
          case rel => exact ⟨k + 1, by omega, by go_num, ⟨_, Lib.hid (HO5.out.set7 _), Lib.hid (HG5.out.set HO5.out (by decide) (by decide) (by decide)), Lib.hid (hq5.keepA (KeepT.set HO5.out (by decide)) ((Below.refl _ _).setCell (p := ⟨w1.heap.size, 7, none⟩) (by show w.heap.size ≤ w1.heap.size; omega) _))⟩, Lib.hid (B5.out.setCell (p := ⟨w1.heap.size, 7, none⟩) (by show W0.heap.size ≤ w1.heap.size; omega) _)⟩
          case measure => simp [intOf]; omega
    · obtain rfl : k = f.q.length := by omega
      have hq2 := HQ.out
      rw [List.take_length] at hq2
      obtain ⟨A5, c5, rfl, -, -, -⟩ := hq2.lay (fun u l hu => hu.at_ (by have := HBr.out.size; omega))
      have HQ2 := Lib.hid hq2
      have hr := (HBr.out.block _ (heap_lt HR.out)).trans HR.out
      have HRr := Lib.hid hr
      have r0 := cell_of_heap (o := 0) hr rfl; have r1 := cell_of_heap (o := 1) hr rfl; have r2 := cell_of_heap (o := 2) hr rfl; have r3 := cell_of_heap (o := 3) hr rfl; have r4 := cell_of_heap (o := 4) hr rfl; have r5 := cell_of_heap (o := 5) hr rfl; have r6 := cell_of_heap (o := 6) hr rfl; have r7 := cell_of_heap (o := 7) hr rfl
      have rf := frozen_of_heap hr
      clear hq2 hr
      go_wp2_with (fail)
      have e := set8_heap HRr.out (.slice L'.Ak f.h.ks.length L'.ck) (.int .i64 f.h.fl) (.slice L'.Ap f.h.ps.length L'.cp) (.slice L'.Ab f.h.bs.length L'.cb) (.slice A' f.pk.length c') (.int .i64 f.day) (.int .i64 f.nb) (.slice A5 (keptQ a f.q).length c5)
      refine bodyPost_ret (results_cell rfl rfl (load29 (cell_of_heap (o := 0) e rfl) (cell_of_heap (o := 1) e rfl) (cell_of_heap (o := 2) e rfl) (cell_of_heap (o := 3) e rfl) (cell_of_heap (o := 4) e rfl) (cell_of_heap (o := 5) e rfl) (cell_of_heap (o := 6) e rfl) (cell_of_heap (o := 7) e rfl))) rfl ⟨⟨⟨L', A', c', A5, c5⟩, rfl, ?_⟩, ?_⟩
      · have h1 := (show CopF wr W0.heap.size ⟨L', A', c', A5, c5⟩ (withoutF f a) from ⟨HG.out.h, HG.out.p⟩).keepT (keepT_set8 HRr.out (by decide) (.slice L'.Ak f.h.ks.length L'.ck) (.int .i64 f.h.fl) (.slice L'.Ap f.h.ps.length L'.cp) (.slice L'.Ab f.h.bs.length L'.cb) (.slice A' f.pk.length c') (.int .i64 f.day) (.int .i64 f.nb) (.slice A5 (keptQ a f.q).length c5)) (keepT_set8 HRr.out (by decide) (.slice L'.Ak f.h.ks.length L'.ck) (.int .i64 f.h.fl) (.slice L'.Ap f.h.ps.length L'.cp) (.slice L'.Ab f.h.bs.length L'.cb) (.slice A' f.pk.length c') (.int .i64 f.day) (.int .i64 f.nb) (.slice A5 (keptQ a f.q).length c5)) (keepT_set8 HRr.out (by decide) (.slice L'.Ak f.h.ks.length L'.ck) (.int .i64 f.h.fl) (.slice L'.Ap f.h.ps.length L'.cp) (.slice L'.Ab f.h.bs.length L'.cb) (.slice A' f.pk.length c') (.int .i64 f.day) (.int .i64 f.nb) (.slice A5 (keptQ a f.q).length c5))
        have h2 := HQ2.out.keepA (keepT_set8 HRr.out (by decide) (.slice L'.Ak f.h.ks.length L'.ck) (.int .i64 f.h.fl) (.slice L'.Ap f.h.ps.length L'.cp) (.slice L'.Ab f.h.bs.length L'.cb) (.slice A' f.pk.length c') (.int .i64 f.day) (.int .i64 f.nb) (.slice A5 (keptQ a f.q).length c5)) (below_set8 (Below.refl _ _) (show w.heap.size ≤ w.heap.size + 1 by omega) (.slice L'.Ak f.h.ks.length L'.ck) (.int .i64 f.h.fl) (.slice L'.Ap f.h.ps.length L'.cp) (.slice L'.Ab f.h.bs.length L'.cb) (.slice A' f.pk.length c') (.int .i64 f.day) (.int .i64 f.nb) (.slice A5 (keptQ a f.q).length c5))
        exact readFair h1 h2 (by simp only [World.size_setCell]; have h5 := HBr.out.size; omega)
      · exact below_set8 (hb0to HBW.out HBr.out) (by omega) _ _ _ _ _ _ _ _

end Go.Proofs.Ytmconopnplgcfaa
