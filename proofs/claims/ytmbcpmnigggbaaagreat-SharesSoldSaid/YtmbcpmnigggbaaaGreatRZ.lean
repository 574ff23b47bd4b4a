import Derived.Test.YtmbcpmnigggbaaaGreatPP
namespace Go.Proofs.YtmbcpmnigggbaaaGreat
open Go.RowKit

/-! Without 26. -/
theorem chainN {n m : Nat} {w X W : World} (_ : Below m X W) (h : Below n w X) : Below n w X := h
theorem kept_no {a : Int} {q : List Bid} {k : Nat} {x : Bid} (hx : q[k]? = some x) (h : x.who = a) : keptQ a (q.take (k + 1)) = keptQ a (q.take k) := by
  rw [← take_snoc_next hx]
  unfold keptQ
  rw [List.filter_append]
  simp [h]
theorem kept_yes {a : Int} {q : List Bid} {k : Nat} {x : Bid} (hx : q[k]? = some x) (h : x.who ≠ a) : keptQ a (q.take (k + 1)) = keptQ a (q.take k) ++ [x] := by
  rw [← take_snoc_next hx]
  unfold keptQ
  rw [List.filter_append]
  simp [h]
theorem readFair {Wf : World} {n b : Nat} {F : FL} {g : Fair} (h1 : CopF Wf b F g) (h2 : OwnsQ (InnAt n) Wf b (.slice F.Aq g.q.length F.cq) g.q) (hn : n ≤ Wf.heap.size) : FairAt Wf Wf.heap.size F g := by
  obtain ⟨A6, c6, eq, -, h3, -⟩ := h2.lay (fun u l hu => hu.at_ hn)
  injection eq with e1 e2 e3
  subst e1
  exact ⟨h1.h.house, (ints_at h1.p).1.at_, h3⟩
/-- What Without returns: a fair that can be read. -/
def ReadRet (g : Fair) (w' : World) (e : Ending) : Prop := ∃ F', e = .returned (F'.enc g) ∧ FairAt w' w'.heap.size F' g
set_option maxRecDepth 100000 in
set_option maxHeartbeats 4000000 in
theorem without_any (F : FL) (f : Fair) (hn : FN f) (hok : FLOK F f) (a : Int) (w : World) (hF : FairAt w w.heap.size F f) :
    Calls Tryz.prog 78 #[F.enc f, .int .i64 a] w fun e w' => ReadRet (withoutF f a) w' e ∧ Below w.heap.size w w' := by
  have HF0 := Lib.hid hF
  obtain ⟨W0, hW0⟩ : ∃ W0, (w.alloc (.cells #[.slice F.L.Ak f.h.ks.length F.L.ck, .int .i64 f.h.fl, .slice F.L.Ap f.h.ps.length F.L.cp, .slice F.L.Ab f.h.bs.length F.L.cb, .slice F.Ap f.pk.length F.cp, .int .i64 f.day, .int .i64 f.nb, .slice F.Aq f.q.length F.cq] 32)).alloc (.cells #[.slice none 0 0, .int .i64 0, .slice none 0 0, .slice none 0 0, .slice none 0 0, .int .i64 0, .int .i64 0, .slice none 0 0] 32) = W0 := ⟨_, rfl⟩
  have hb0 : Below w.heap.size w W0 := by rw [← hW0]; exact hb0to (al_below _ _) (al_below _ _)
  have hx0 : FBox W0 w.heap.size F f := (FBox.new w F f).of (by rw [← hW0]; exact Below.heap_alloc _ _ _ (by simp))
  have hr0 : W0.heap[w.heap.size + 1]? = some (.cells #[.slice none 0 0, .int .i64 0, .slice none 0 0, .slice none 0 0, .slice none 0 0, .int .i64 0, .int .i64 0, .slice none 0 0] 32) := by rw [← hW0]; exact heap_new2 _ _ _
  have hs0 : w.heap.size + 2 ≤ W0.heap.size := heap_lt hr0
  have HW0 := Lib.hid hW0
  have HBW := Lib.hid hb0
  have HB := Lib.hid hx0
  have HR := Lib.hid hr0
  have HN := Lib.hid hn
  have HF := Lib.hid (hF.below hb0)
  have HC := Lib.hid (copy_line F f hn hok W0 HF.out)
  obtain ⟨c0, c1, c2, c3, c4, c5, c6, c7⟩ := hx0.cells
  clear hW0 hb0 hx0 hr0 hn hok hF
  obtain ⟨L, Ap, cp, Aq, cq⟩ := F
  go_enter Tryz.func78, Tryz.ntmps78
  go_upto_region 1 with (fail)
  have e := HW0.out
  rw [e]
  clear e

  go_upto_region 4 with (go_at_call 8; refine HC.out.mono ?_; rintro e w1 ⟨⟨⟨L', A', c', A9, c9⟩, rfl, hcf, hq⟩, hb1⟩; have B1 := Lib.hid hb1; have HCF := Lib.hid hcf; have HQ := Lib.hid hq; have hr := (hb1.block _ (heap_lt HR.out)).trans HR.out; have HRr := Lib.hid hr; have r0 := cell_of_heap (o := 0) hr rfl; have r1 := cell_of_heap (o := 1) hr rfl; have r2 := cell_of_heap (o := 2) hr rfl; have r3 := cell_of_heap (o := 3) hr rfl; have r4 := cell_of_heap (o := 4) hr rfl; have r5 := cell_of_heap (o := 5) hr rfl; have r6 := cell_of_heap (o := 6) hr rfl; have r7 := cell_of_heap (o := 7) hr rfl; have rf := frozen_of_heap hr; have s1 := B1.out.size; have n0 : ¬ w1.heap.size = w.heap.size + 1 := (by omega); have n1 : ¬ w.heap.size + 1 = w1.heap.size := (by omega); have n2 : w.heap.size + 1 < w1.heap.size := (by omega); clear hcf hq hb1 hr)
  obtain ⟨Wb, hWb⟩ : ∃ W, w1.alloc (.cells #[.slice L'.Ak f.h.ks.length L'.ck, .int .i64 f.h.fl, .slice L'.Ap f.h.ps.length L'.cp, .slice L'.Ab f.h.bs.length L'.cb, .slice A' f.pk.length c', .int .i64 f.day, .int .i64 f.nb, .slice none 0 0] 32) = W := ⟨_, rfl⟩
  have hz : Wb.heap[w1.heap.size]? = some (.cells #[.slice L'.Ak f.h.ks.length L'.ck, .int .i64 f.h.fl, .slice L'.Ap f.h.ps.length L'.cp, .slice L'.Ab f.h.bs.length L'.cb, .slice A' f.pk.length c', .int .i64 f.day, .int .i64 f.nb, .slice none 0 0] 32) := by rw [← hWb]; exact heap_new1 _ _
  have hbb : Below w1.heap.size w1 Wb := by rw [← hWb]; exact al_below _ _
  rw [hWb]
  have HZ := Lib.hid (show CBox Wb w1.heap.size ⟨L', A', c', A9, c9⟩ f (.slice none 0 0) from hz)
  have HG := Lib.hid (HCF.out.below hbb)
  have BB := Lib.hid (hb0to B1.out hbb)
  have hs1 := HBW.out.size
  have hs2 := B1.out.size
  have hzr : ¬ w1.heap.size = w.heap.size + 1 := by omega
  have hzr2 : ¬ w.heap.size + 1 = w1.heap.size := by omega
  have hzw : ¬ w1.heap.size = w.heap.size := by omega
  have hzw2 : ¬ w.heap.size = w1.heap.size := by omega
  clear hz hbb hWb HC HCF HQ HRr r0 r1 r2 r3 r4 r5 r6 r7 rf c0 c1 c2 c3 c4 c5 c6 c7
  go_loopw [6] (fun i wr => ∃ k : Nat, k ≤ f.q.length ∧ i = .int .i64 k ∧ (∃ v, Hid (CBox wr w1.heap.size ⟨L', A', c', A9, c9⟩ f v) ∧ Hid (CopF wr W0.heap.size ⟨L', A', c', A9, c9⟩ f) ∧ Hid (OwnsQ (InnAt w.heap.size) wr W0.heap.size v (keptQ a (f.q.take k)))) ∧ Hid (Below W0.heap.size W0 wr)) (fun i _ => f.q.length - (intOf i).toNat)
  case atStart => exact ⟨0, Nat.zero_le _, rfl, ⟨_, HZ, HG, Lib.hid (ownsQ_nil _ _ _)⟩, BB⟩
  case round =>
    obtain ⟨k, hk, rfl, ⟨v, HO, HG, HQ⟩, HBr⟩ := hrel
    obtain ⟨c0, c1, c2, c3, c4, c5, c6, c7⟩ := (HB.out.of (HBr.out.block _ HB.out.lt)).cells
    obtain ⟨z0, z1, z2, z3, z4, z5, z6, z7⟩ := HO.out.cells
    have zf := frozen_of_heap HO.out
    have hq1000 := HN.out.q
    by_cases hlt : k < f.q.length
    · obtain ⟨x, hx⟩ : ∃ x, f.q[k]? = some x := ⟨_, List.getElem?_eq_getElem hlt⟩
      obtain ⟨bk, ok, A2, c2', rfl, hbk, d1, d2, d3, hA2, hI⟩ := HF0.out.q.at_ hx
      have hbwr := hb0to HBW.out HBr.out
      have e1 := (hbwr.cell (p := ⟨bk, ok + k * 3, none⟩) hbk).trans d1
      have e2 := (hbwr.cell (p := ⟨bk, ok + k * 3 + 1, none⟩) hbk).trans d2
      have e3 := (hbwr.cell (p := ⟨bk, ok + k * 3 + 2, none⟩) hbk).trans d3
      have HI := Lib.hid (hI.keep (Nat.le_refl _) fun b o hlt => hbwr.cell (p := ⟨b, o, none⟩) hlt)
      have HA2 := Lib.hid hA2
      have hbkz : ¬ bk = w1.heap.size := by omega
      have hbkw : ¬ w1.heap.size = bk := by omega
      have hzl : w1.heap.size < wr.heap.size := HO.out.lt
      have hwl : w.heap.size < wr.heap.size := by omega
      have hbl : bk < wr.heap.size := by omega
      have m1 : ¬ bk = wr.heap.size := by omega
      have m2 : ¬ wr.heap.size = bk := by omega
      have m3 : ¬ w1.heap.size = wr.heap.size := by omega
      have m4 : ¬ wr.heap.size = w1.heap.size := by omega
      have m5 : ¬ w.heap.size = wr.heap.size := by omega
      have m6 : ¬ wr.heap.size = w.heap.size := by omega
      have hwr : W0.heap.size ≤ wr.heap.size := HBr.out.size
      have hql : (keptQ a (f.q.take k)).length ≤ 1000 := by
        have h1 : (keptQ a (f.q.take k)).length ≤ (f.q.take k).length := List.length_filter_le _ _
        rw [List.length_take] at h1
        omega
      clear d1 d2 d3 hI hA2 hbwr c0 c1 c2 c3 c4 c5 c6 z0 z1 z2 z3 z4 z5 z6
      by_cases hwho : x.who = a
      · have hd : (x.who != a) = false := bne_eq_false_iff_eq.2 hwho
        have HKN := Lib.hid (kept_no hx hwho)
        have HQ1 := Lib.hid (show OwnsQ (InnAt w.heap.size) wr W0.heap.size v (keptQ a (f.q.take (k + 1))) by rw [HKN.out]; exact HQ.out)
        clear hx hwho
        go_wp2_with (fail)
        go_roundw
        case rel => exact ⟨k + 1, by omega, by go_num, ⟨_, HO, HG, HQ1⟩, HBr⟩
        case measure => simp [intOf]; omega
      · have hd : (x.who != a) = true := bne_iff_ne.2 hwho
        have HKN := Lib.hid (kept_yes hx hwho)
        clear hx hwho
        go_wp2_with (fail)
        go_region_law
          (first
            | (refine step_appQ (by rfl) (.tmp 26) (.tmp 32) (by rfl) (InnAt w.heap.size) W0.heap.size v (keptQ a (f.q.take k)) (by rfl) (HQ.out.keepA (KeepT.below (by first | exact al_below _ _ | exact rows_below1 _ _)) ((show Below wr.heap.size wr _ by first | exact al_below _ _ | exact rows_below1 _ _).mono (by omega))) wr.heap.size 1 x A2 c2' (by rfl) (by simp [go_sem]) (by simp [go_sem]) (by simp [go_sem]) hql (by simp; omega) (fun w' hb' hk' => ⟨⟨A2, c2', rfl, HA2.out, HI.out.keep (Nat.le_refl _) fun b o hlt => (Below.trans ((show Below wr.heap.size wr _ by first | exact al_below _ _ | exact rows_below1 _ _).mono (show w.heap.size ≤ _ by omega)) (hb'.mono (show w.heap.size ≤ _ by omega))).cell (p := ⟨b, o, none⟩) hlt⟩, fun u l ⟨A7, c7, q1, q2, q3⟩ => ⟨A7, c7, q1, q2, q3.keep (Nat.le_refl _) fun b o hlt => (hb'.mono (show w.heap.size ≤ _ by omega)).cell (p := ⟨b, o, none⟩) hlt⟩⟩) ?_; intro v5 w5 ho5 hb5 hk5; have hbX := chainN hb5 (n := wr.heap.size) (w := wr) (by first | exact al_below _ _ | exact rows_below1 _ _); have BX := Lib.hid hbX; clear hbX; have B5 : Hid (Below W0.heap.size W0 w5) := Lib.hid (Below.trans (hb0to HBr.out BX.out) hb5); obtain ⟨A5, k5, rfl, -, -, -⟩ := ho5.lay (fun u l hu => hu.at_ (by have := B5.out.size; omega)); have HO5 := Lib.hid (show CBox w5 w1.heap.size ⟨L', A', c', A9, c9⟩ f v from hk5 32 (by decide) _ _ ((HO.out.of (BX.out.block _ HO.out.lt)))); have HG5 := Lib.hid ((HG.out.below BX.out).keepT (hk5 96 (by decide)) (hk5 98 (by decide)) (hk5 3 (by decide))); have HQ5 := Lib.hid ho5; have c7 := (HB.out.of (B5.out.block _ HB.out.lt)).cells.2.2.2.2.2.2.2; have z7 := HO5.out.cells.2.2.2.2.2.2.2; have zf := frozen_of_heap HO5.out; clear ho5 hb5 hk5))
        all_goals
          go_wp2_with (fail)
          have hq5 := HQ5.out
          rw [List.length_append, ← HKN.out] at hq5
          go_roundw
          case rel => exact ⟨k + 1, by omega, by go_num, ⟨_, Lib.hid (HO5.out.set7 _), Lib.hid (HG5.out.set HO5.out (by decide) (by decide) (by decide)), Lib.hid (hq5.keepA (KeepT.set HO5.out (by decide)) ((Below.refl _ _).setCell (p := ⟨w1.heap.size, 7, none⟩) (by show w.heap.size ≤ w1.heap.size; omega) _))⟩, Lib.hid (B5.out.setCell (p := ⟨w1.heap.size, 7, none⟩) (by show W0.heap.size ≤ w1.heap.size; omega) _)⟩
          case measure => simp [intOf]; omega
    · obtain rfl : k = f.q.length := by omega
      have hq2 := HQ.out
      rw [List.take_length] at hq2
      obtain ⟨A5, c5, rfl, -, -, -⟩ := hq2.lay (fun u l hu => hu.at_ (by have := HBr.out.size; omega))
      have HQ2 := Lib.hid hq2
      have hr := (HBr.out.block _ (heap_lt HR.out)).trans HR.out
      have HRr := Lib.hid hr
      have r0 := cell_of_heap (o := 0) hr rfl; have r1 := cell_of_heap (o := 1) hr rfl; have r2 := cell_of_heap (o := 2) hr rfl; have r3 := cell_of_heap (o := 3) hr rfl; have r4 := cell_of_heap (o := 4) hr rfl; have r5 := cell_of_heap (o := 5) hr rfl; have r6 := cell_of_heap (o := 6) hr rfl; have r7 := cell_of_heap (o := 7) hr rfl
      have rf := frozen_of_heap hr
      clear hq2 hr
      go_wp2_with (fail)
      have e := set8_heap HRr.out (.slice L'.Ak f.h.ks.length L'.ck) (.int .i64 f.h.fl) (.slice L'.Ap f.h.ps.length L'.cp) (.slice L'.Ab f.h.bs.length L'.cb) (.slice A' f.pk.length c') (.int .i64 f.day) (.int .i64 f.nb) (.slice A5 (keptQ a f.q).length c5)
      refine bodyPost_ret (results_cell rfl rfl (load29 (cell_of_heap (o := 0) e rfl) (cell_of_heap (o := 1) e rfl) (cell_of_heap (o := 2) e rfl) (cell_of_heap (o := 3) e rfl) (cell_of_heap (o := 4) e rfl) (cell_of_heap (o := 5) e rfl) (cell_of_heap (o := 6) e rfl) (cell_of_heap (o := 7) e rfl))) rfl ⟨⟨⟨L', A', c', A5, c5⟩, rfl, ?_⟩, ?_⟩
      · have h1 := (show CopF wr W0.heap.size ⟨L', A', c', A5, c5⟩ (withoutF f a) from ⟨HG.out.h, HG.out.p⟩).keepT (keepT_set8 HRr.out (by decide) (.slice L'.Ak f.h.ks.length L'.ck) (.int .i64 f.h.fl) (.slice L'.Ap f.h.ps.length L'.cp) (.slice L'.Ab f.h.bs.length L'.cb) (.slice A' f.pk.length c') (.int .i64 f.day) (.int .i64 f.nb) (.slice A5 (keptQ a f.q).length c5)) (keepT_set8 HRr.out (by decide) (.slice L'.Ak f.h.ks.length L'.ck) (.int .i64 f.h.fl) (.slice L'.Ap f.h.ps.length L'.cp) (.slice L'.Ab f.h.bs.length L'.cb) (.slice A' f.pk.length c') (.int .i64 f.day) (.int .i64 f.nb) (.slice A5 (keptQ a f.q).length c5)) (keepT_set8 HRr.out (by decide) (.slice L'.Ak f.h.ks.length L'.ck) (.int .i64 f.h.fl) (.slice L'.Ap f.h.ps.length L'.cp) (.slice L'.Ab f.h.bs.length L'.cb) (.slice A' f.pk.length c') (.int .i64 f.day) (.int .i64 f.nb) (.slice A5 (keptQ a f.q).length c5))
        have h2 := HQ2.out.keepA (keepT_set8 HRr.out (by decide) (.slice L'.Ak f.h.ks.length L'.ck) (.int .i64 f.h.fl) (.slice L'.Ap f.h.ps.length L'.cp) (.slice L'.Ab f.h.bs.length L'.cb) (.slice A' f.pk.length c') (.int .i64 f.day) (.int .i64 f.nb) (.slice A5 (keptQ a f.q).length c5)) (below_set8 (Below.refl _ _) (show w.heap.size ≤ w.heap.size + 1 by omega) (.slice L'.Ak f.h.ks.length L'.ck) (.int .i64 f.h.fl) (.slice L'.Ap f.h.ps.length L'.cp) (.slice L'.Ab f.h.bs.length L'.cb) (.slice A' f.pk.length c') (.int .i64 f.day) (.int .i64 f.nb) (.slice A5 (keptQ a f.q).length c5))
        exact readFair h1 h2 (by simp only [World.size_setCell]; have h5 := HBr.out.size; omega)
      · exact below_set8 (hb0to HBW.out HBr.out) (by omega) _ _ _ _ _ _ _ _

end Go.Proofs.YtmbcpmnigggbaaaGreat
namespace Go.Proofs.YtmbcpmnigggbaaaGreat
open Go.RowKit

/-! paysOf 92, Pays 52, Paid 53. -/
theorem any_snoc (p : Nat → Bool) (l : List Nat) (i : Nat) : (l ++ [i]).any p = (l.any p || p i) := by simp
set_option maxRecDepth 100000 in
set_option maxHeartbeats 4000000 in
theorem paysOf_any (F : FL) (f : Fair) (hn : FN f) (hok : FLOK F f) (hv : validF f = true) (v : Int) (w : World) (hF : FairAt w w.heap.size F f) : Calls Tryz.prog 52 #[F.enc f, .int .i64 v] w fun e w' => e = .returned (.int .i64 (payV f.q (rdF f) v)) ∧ Below w.heap.size w w' := by
  have hbw := al_below w (.cells #[.slice F.L.Ak f.h.ks.length F.L.ck, .int .i64 f.h.fl, .slice F.L.Ap f.h.ps.length F.L.cp, .slice F.L.Ab f.h.bs.length F.L.cb, .slice F.Ap f.pk.length F.cp, .int .i64 f.day, .int .i64 f.nb, .slice F.Aq f.q.length F.cq] 32)
  have HB := Lib.hid (FBox.new w F f)
  obtain ⟨c0, c1, c2, c3, c4, c5, c6, c7⟩ := (FBox.new w F f).cells
  obtain ⟨W0, hW0⟩ : ∃ W0, w.alloc (.cells #[.slice F.L.Ak f.h.ks.length F.L.ck, .int .i64 f.h.fl, .slice F.L.Ap f.h.ps.length F.L.cp, .slice F.L.Ab f.h.bs.length F.L.cb, .slice F.Ap f.pk.length F.cp, .int .i64 f.day, .int .i64 f.nb, .slice F.Aq f.q.length F.cq] 32) = W0 := ⟨_, rfl⟩
  rw [hW0] at hbw HB c0 c1 c2 c3 c4 c5 c6 c7
  have HBW := Lib.hid hbw
  have HW0 := Lib.hid hW0
  have HF := Lib.hid (hF.below hbw)
  clear hbw hW0 hF
  have hf := FOK.of hv
  have hql := hf.ql
  have HPAY := Lib.hid hf.pay
  have H81 := Lib.hid (fun W hW => winnersOf_any F f hn hf W hW)
  have H26 := Lib.hid (fun W hW => without_any F f hn hok v W hW)
  have H79 := Lib.hid (fun G W hW => mostOf_any G (withoutF f v) (without_fn hn v) (FOK.of (without_valid hv v)) W hW)
  have hmb := mW_bd (FOK.of (without_valid hv v))
  unfold mW at hmb
  have HP : Hid (payV f.q (rdF f) v = if (winL f.q (rdF f)).any (ownP f.q v) = true then mostV (withoutF f v).q (rdF (withoutF f v)) - othersL f.q v (winL f.q (rdF f)) else 0) := Lib.hid (by unfold payV; rw [← without_most hv v]; rfl)
  have HLT := Lib.hid (fun i (hi : i ∈ winL f.q (rdF f)) => (wL_win hf).sale.lt hi)
  have hll : (winL f.q (rdF f)).length ≤ 8 := Nat.le_trans (bits_len _ _) hf.ql
  generalize mostV (withoutF f v).q (rdF (withoutF f v)) = m at H79 hmb HP
  generalize payV f.q (rdF f) v = pv at HP ⊢
  generalize winL f.q (rdF f) = l at H81 HP HLT hll
  clear hn hok hv hf
  obtain ⟨L, Ap, cp, Aq, cq⟩ := F
  go_enter Tryz.func52, Tryz.ntmps52
  go_upto_region 1 with (fail)
  have e := HW0.out
  rw [e]
  clear e

  go_wp2_with (go_at_call 76; refine (H81.out W0 HF.out).mono ?_; rintro e w1 ⟨⟨A1, cs1, rfl, _, hI⟩, hb⟩; have HI := Lib.hid hI.at_; have B1 := Lib.hid hb; clear hI hb)
  clear c0 c1 c2 c3 c4 c5 c6 c7
  go_loopw [6, 7, 8] (fun s b i wr => ∃ k : Nat, k ≤ l.length ∧ i = .int .i64 k ∧ (∃ (t : Int) (bw : Bool), s = .int .i64 t ∧ b = .bool bw ∧ 0 ≤ t ∧ t ≤ 99 * (k : Int) ∧ Hid (othersL f.q v (l.take k) = t) ∧ Hid ((l.take k).any (ownP f.q v) = bw)) ∧ Hid (Below w1.heap.size w1 wr)) (fun _ _ i _ => l.length - (intOf i).toNat)
  case atStart => exact ⟨0, Nat.zero_le _, rfl, ⟨0, false, rfl, rfl, by omega, by omega, Lib.hid rfl, Lib.hid rfl⟩, Lib.hid (Below.refl _ _)⟩
  case round =>
    obtain ⟨k, hk, rfl, ⟨t, bw, rfl, rfl, ht0, ht1, hot, hbw⟩, hb⟩ := hrel
    have hbW := hb0to B1.out hb.out
    obtain ⟨g0, g1, g2, g3, g4, g5, g6, g7⟩ := (HB.out.of (hbW.block _ HB.out.lt)).cells
    by_cases hlt : k < l.length
    · obtain ⟨n, hy⟩ : ∃ n, l[k]? = some n := ⟨_, List.getElem?_eq_getElem hlt⟩
      have hnq : n < f.q.length := HLT.out n (List.mem_of_getElem? hy)
      obtain ⟨x, hx⟩ : ∃ x, f.q[n]? = some x := ⟨_, List.getElem?_eq_getElem hnq⟩
      have hxp := HPAY.out x (List.mem_of_getElem? hx)
      obtain ⟨b1, o1, eA1, b1lt, d1⟩ := HI.out.at_ (intsN_at hy)
      obtain ⟨bk, ok, A', c', eA, hbk, x1, x2, x3, hA', hXI⟩ := HF.out.q.at_ hx
      simp only at eA
      have HEA := Lib.hid eA
      rw [eA] at g7
      cases eA1
      have e0 := below_cell hb.out d1
      have e1 := below_cell hbW x1
      have e3 := below_cell hbW x3
      have HOS := Lib.hid (others_snoc f.q v (l.take k) n)
      have HAS := Lib.hid (any_snoc (ownP f.q v) (l.take k) n)
      rw [take_snoc_next hy, hot.out, own_some hx, payAt_some hx] at HOS
      rw [take_snoc_next hy, hbw.out, own_some hx] at HAS
      have hnq8 : n < 8 := by omega
      clear d1 x1 x2 x3 hA' hXI hy hx eA g0 g1 g2 g3 g4 g5 g6 hbW
      by_cases how : x.who = v
      · have hd : (x.who == v) = true := beq_iff_eq.2 how
        rw [show decide (x.who = v) = true from decide_eq_true how] at HOS HAS
        rw [if_pos rfl] at HOS
        rw [Bool.or_true] at HAS
        clear how
        go_wp2_with (fail)
        go_region_held3 (fun w' => w'.cell? ⟨w.heap.size, 7, none⟩ = some (.slice (some ⟨bk, ok, none⟩) f.q.length cq) ∧ w'.cell? ⟨b1, o1 + k, none⟩ = some (.int .i64 (n : Int)) ∧ w'.cell? ⟨bk, ok + n * 3, none⟩ = some (.int .i64 x.who) ∧ w'.cell? ⟨bk, ok + n * 3 + 2, none⟩ = some (.int .i64 x.pay)) (first | go_keep) (fail)
        go_wp2_with (fail)
        go_roundw
        case rel => exact ⟨k + 1, by omega, by go_num, ⟨t, true, rfl, rfl, by omega, by omega, HOS, HAS⟩, Lib.hid (Below.drew hb.out)⟩
        case measure => simp [intOf]; omega
      · have hd : (x.who == v) = false := beq_eq_false_iff_ne.2 how
        rw [show decide (x.who = v) = false from decide_eq_false how] at HOS HAS
        rw [if_neg (by simp)] at HOS
        rw [Bool.or_false] at HAS
        have hw1 : IntKind.i64.wrap (t + x.pay) = t + x.pay := IntWalk.i64_in _ (by omega)
        clear how
        go_wp2_with (fail)
        go_region_held3 (fun w' => w'.cell? ⟨w.heap.size, 7, none⟩ = some (.slice (some ⟨bk, ok, none⟩) f.q.length cq) ∧ w'.cell? ⟨b1, o1 + k, none⟩ = some (.int .i64 (n : Int)) ∧ w'.cell? ⟨bk, ok + n * 3, none⟩ = some (.int .i64 x.who) ∧ w'.cell? ⟨bk, ok + n * 3 + 2, none⟩ = some (.int .i64 x.pay)) (first | go_keep) (fail)
        go_wp2_with (fail)
        go_region_held3 (fun w' => w'.cell? ⟨w.heap.size, 7, none⟩ = some (.slice (some ⟨bk, ok, none⟩) f.q.length cq) ∧ w'.cell? ⟨b1, o1 + k, none⟩ = some (.int .i64 (n : Int)) ∧ w'.cell? ⟨bk, ok + n * 3, none⟩ = some (.int .i64 x.who) ∧ w'.cell? ⟨bk, ok + n * 3 + 2, none⟩ = some (.int .i64 x.pay)) (first | go_keep) (fail)
        go_wp2_with (fail)
        go_roundw
        case rel => exact ⟨k + 1, by omega, by go_num, ⟨t + x.pay, bw, by go_num, rfl, by omega, by omega, HOS, HAS⟩, Lib.hid (Below.drew (Below.drew hb.out))⟩
        case measure => simp [intOf]; omega
    · obtain rfl : k = l.length := by omega
      have h1 := hot.out
      have h2 := hbw.out
      rw [List.take_length] at h1 h2
      have HP2 := Lib.hid HP.out
      rw [h1, h2] at HP2
      have HPQ := Lib.hid HP2.out
      cases bw
      · have HPZ := Lib.hid (HP2.out.trans (if_neg (by simp)))
        clear h1 h2 HP HP2 HPQ hot hbw
        go_wp2_with (fail)
        go_ret
        exact ⟨congrArg (fun z => Ending.returned (.int .i64 z)) HPZ.out.symm, hb0to HBW.out hbW⟩
      · have HPZ := Lib.hid (HP2.out.trans (if_pos rfl))
        clear h1 h2 HP HP2 HPQ hot hbw
        go_wp2_with (first
          | (go_at_call 78; refine (H26.out _ (HF.out.below hbW)).mono ?_; rintro e w4 ⟨⟨⟨⟨k1, k2, k3, k4, k5, k6⟩, k7, k8, k9, k10⟩, rfl, hg⟩, hb4⟩; have HG := Lib.hid hg; have B4 := Lib.hid (hb0to hbW hb4); clear hg hb4)
          | (go_at_call 77; refine (H79.out _ w4 HG.out).mono ?_; rintro e w5 ⟨rfl, hb5⟩; have B5 := Lib.hid (hb0to B4.out hb5); clear hb5))
        go_ret
        exact ⟨congrArg (fun z => Ending.returned (.int .i64 z)) HPZ.out.symm, hb0to HBW.out B5.out⟩
set_option maxRecDepth 100000 in
set_option maxHeartbeats 4000000 in
theorem rPaid_any (F : FL) (f : Fair) (hn : FN f) (hok : FLOK F f) (w : World) (hF : FairAt w w.heap.size F f) : Calls Tryz.prog 28 #[F.enc f] w fun e w' => NumEnd (paidRet f) e ∧ Below w.heap.size w w' := by
  have hbw := al_below w (.cells #[.slice F.L.Ak f.h.ks.length F.L.ck, .int .i64 f.h.fl, .slice F.L.Ap f.h.ps.length F.L.cp, .slice F.L.Ab f.h.bs.length F.L.cb, .slice F.Ap f.pk.length F.cp, .int .i64 f.day, .int .i64 f.nb, .slice F.Aq f.q.length F.cq] 32)
  have HB := Lib.hid (FBox.new w F f)
  obtain ⟨c0, c1, c2, c3, c4, c5, c6, c7⟩ := (FBox.new w F f).cells
  obtain ⟨W0, hW0⟩ : ∃ W0, w.alloc (.cells #[.slice F.L.Ak f.h.ks.length F.L.ck, .int .i64 f.h.fl, .slice F.L.Ap f.h.ps.length F.L.cp, .slice F.L.Ab f.h.bs.length F.L.cb, .slice F.Ap f.pk.length F.cp, .int .i64 f.day, .int .i64 f.nb, .slice F.Aq f.q.length F.cq] 32) = W0 := ⟨_, rfl⟩
  rw [hW0] at hbw HB c0 c1 c2 c3 c4 c5 c6 c7
  have HBW := Lib.hid hbw
  have HW0 := Lib.hid hW0
  have HF := Lib.hid (hF.below hbw)
  clear hbw hW0 hF
  have HC := Lib.hid (rcheckF_any F f hn W0 HF.out)
  have HN := Lib.hid hn
  cases hv : validF f
  · rw [ckF_no hv] at HC
    have HQ := Lib.hid (show paidRet f = (0, 90) from numRF_no (askF_bad true hv).symm (by omega))
    clear hv hok hn
    obtain ⟨L, Ap, cp, Aq, cq⟩ := F
    go_enter Tryz.func28, Tryz.ntmps28
    go_upto_region 1 with (fail)
    have e := HW0.out
    rw [e]
    clear e

    go_wp2_with (go_at_call 51; refine HC.out.mono ?_; rintro e w1 ⟨rfl, hb1⟩; have B1 := Lib.hid hb1; clear hb1)
    go_ret2
    exact ⟨NumEnd.mk HQ.out, hb0to HBW.out B1.out⟩
  · rw [ckF_yes hv] at HC
    have hf := FOK.of hv
    obtain ⟨nb, hnb⟩ := Int.eq_ofNat_of_zero_le hf.n0
    have hnb4 : nb ≤ 4 := by have := hf.n1; omega
    have HNB := Lib.hid hnb
    have HQ0 := Lib.hid (show paidRet f = (paidTo f.q (rdF f) nb, 0) by unfold paidRet; rw [numRF_ok (askF_yes hv), hnb]; rfl)
    have HPL := Lib.hid (fun k => payV_le (rd := rdF f) hf.ql hf.pay k)
    have H92 := Lib.hid (fun (k : Int) W hW => paysOf_any F f HN.out hok hv k W hW)
    clear hv hok hn hf hnb
    obtain ⟨L, Ap, cp, Aq, cq⟩ := F
    go_enter Tryz.func28, Tryz.ntmps28
    go_upto_region 1 with (fail)
    have e := HW0.out
    rw [e]
    clear e

    go_wp2_with (go_at_call 51; refine HC.out.mono ?_; rintro e w1 ⟨rfl, hb1⟩; have B1 := Lib.hid hb1; clear hb1)
    clear c0 c1 c2 c3 c4 c5 c6 c7
    go_loopw [5, 6] (fun s i wr => ∃ (k : Nat) (x : Int), k ≤ nb ∧ i = .int .i64 k ∧ s = .int .i64 x ∧ 0 ≤ x ∧ x ≤ 792 * (k : Int) ∧ Hid (x = paidTo f.q (rdF f) k) ∧ Hid (Below W0.heap.size W0 wr)) (fun _ i _ => nb - (intOf i).toNat)
    case atStart => exact ⟨0, 0, Nat.zero_le _, rfl, rfl, by omega, by omega, Lib.hid rfl, B1⟩
    case round =>
      obtain ⟨k, x, hk, rfl, rfl, hx0, hx1, hx, hb⟩ := hrel
      obtain ⟨g0, g1, g2, g3, g4, g5, g6, g7⟩ := (HB.out.of (hb.out.block _ HB.out.lt)).cells
      by_cases hlt : k < nb
      · have hkd : decide ((k : Int) < f.nb) = true := decide_eq_true (by have := HNB.out; omega)
        have hp := HPL.out (k : Int)
        have H := Lib.hid (H92.out (k : Int))
        have HNX := Lib.hid (show paidTo f.q (rdF f) (k + 1) = paidTo f.q (rdF f) k + payV f.q (rdF f) k from rfl)
        generalize payV f.q (rdF f) (k : Int) = p at hp H HNX
        go_wp2_with (go_at_call 52; refine (H.out wr (HF.out.below hb.out)).mono ?_; rintro e w2 ⟨rfl, hb2⟩; have B2 := Lib.hid (hb0to hb.out hb2); clear hb2)
        go_roundw
        case rel => exact ⟨k + 1, x + p, by omega, by go_num, by go_num, by omega, by omega, Lib.hid (by rw [HNX.out, hx.out]), B2⟩
        case measure => simp [intOf]; omega
      · have hkd : decide ((k : Int) < f.nb) = false := decide_eq_false (by have := HNB.out; omega)
        obtain rfl : k = nb := by omega
        have HQ := Lib.hid (show paidRet f = (x, 0) by rw [HQ0.out, hx.out])
        go_wp2_with (fail)
        go_ret2
        exact ⟨NumEnd.mk HQ.out, hb0to HBW.out hb.out⟩

end Go.Proofs.YtmbcpmnigggbaaaGreat
