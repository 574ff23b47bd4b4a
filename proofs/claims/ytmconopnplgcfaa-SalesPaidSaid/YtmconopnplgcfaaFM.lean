import Derived.Test.YtmconopnplgcfaaFL
namespace Go.Proofs.Ytmconopnplgcfaa
open Go.RowKit

/-! On 30, When 31. -/
def dayV (f : Fair) (d : Int) : Int := mostV f.q (readyL f.h f.pk d)
def onRet (f : Fair) (x : Int) : Int × Int := numRF f (inR x 0 20) (dayV f x)
def whenV (f : Fair) : Nat := (whenTo (fun d : Nat => dayV f d) 21).1
def whenRet (f : Fair) : Int × Int := numRF f true (whenV f)
theorem dayV_bd {f : Fair} (hf : FOK f) (d : Int) : 0 ≤ dayV f d ∧ dayV f d ≤ 792 := by
  have h1 := mostTo_bd hf.ql hf.pay allM (setsL f.q (readyL f.h f.pk d))
  have h2 := (mostV_is (rd := readyL f.h f.pk d) hf.ql hf.pos).all_nonneg
  unfold dayV
  unfold mostV at h2 ⊢
  omega
theorem KpB.under {S : Nat → Prop} {B n : Nat} {w W W' : World} (hw : Below B w W) (h : KpB S n W W') (hn : B ≤ n) (hS : ∀ k, S k → B ≤ k) : Below B w W' := hw.trans (h.belowOf hn hS)
theorem cell_kp {S : Nat → Prop} {n : Nat} {W0 W : World} {b o : Nat} {v : Value} (h : KpB S n W0 W) (hc : W0.cell? ⟨b, o, none⟩ = some v) (hs : ¬ S b) (hn : b < n) : W.cell? ⟨b, o, none⟩ = some v := (h.cell hn hs).trans hc
theorem makes0 (w : World) : (Instr.makeMap 74 none).run Try.prog w = .ok (.map (some w.heap.size)) (w.alloc (.map #[] 0)) := rfl
set_option maxRecDepth 100000 in
set_option maxHeartbeats 4000000 in
theorem On_any (F : FL) (f : Fair) (hn : FN f) (x : Int) (w : World) (hF : FairAt w w.heap.size F f) : Calls Try.prog 30 #[F.enc f, .int .i64 x] w fun e w' => NumEnd (onRet f x) e ∧ Below w.heap.size w w' := by
  have hbw := al_below w (.cells #[.slice F.L.Ak f.h.ks.length F.L.ck, .int .i64 f.h.fl, .slice F.L.Ap f.h.ps.length F.L.cp, .slice F.L.Ab f.h.bs.length F.L.cb, .slice F.Ap f.pk.length F.cp, .int .i64 f.day, .int .i64 f.nb, .slice F.Aq f.q.length F.cq] 29)
  have HB := Lib.hid (FBox.new w F f)
  obtain ⟨c0, c1, c2, c3, c4, c5, c6, c7⟩ := (FBox.new w F f).cells
  obtain ⟨W0, hW0⟩ : ∃ W0, w.alloc (.cells #[.slice F.L.Ak f.h.ks.length F.L.ck, .int .i64 f.h.fl, .slice F.L.Ap f.h.ps.length F.L.cp, .slice F.L.Ab f.h.bs.length F.L.cb, .slice F.Ap f.pk.length F.cp, .int .i64 f.day, .int .i64 f.nb, .slice F.Aq f.q.length F.cq] 29) = W0 := ⟨_, rfl⟩
  rw [hW0] at hbw HB c0 c1 c2 c3 c4 c5 c6 c7
  have HBW := Lib.hid hbw
  have HW0 := Lib.hid hW0
  have HF := Lib.hid (hF.below hbw)
  clear hbw hW0 hF
  have HN := Lib.hid hn
  have hqn := hn.q
  obtain ⟨is, his⟩ : ∃ b, b = inR x 0 20 := ⟨_, rfl⟩
  have H70 := Lib.hid (fun W => by have := isDay_any x W; rw [← his] at this; exact this)
  have HIS := Lib.hid his
  clear hn
  by_cases h0 : askF f is = 0
  · have hi := (askF_ok h0).2
    have HV := Lib.hid (askF_ok h0).1
    have HFO := Lib.hid (FOK.of HV.out)
    have HA := Lib.hid h0
    have H66 := Lib.hid (fun W hW => open_yes F f is HN.out W hW h0)
    have HR := Lib.hid (inR_true.1 (his.symm.trans hi))
    clear h0 his
    subst hi
    have HQ0 := Lib.hid (show onRet f x = (dayV f x, 0) by unfold onRet; rw [← HIS.out, numRF_ok HA.out])
    have H71 := Lib.hid (fun b W (hW : Below W0.heap.size W0 W) hO => on_any F f HN.out HFO.out (rdF f) b W.heap.size W0.heap.size f.pk HFO.out.p F.Ap F.cp x 0 (by omega) (W.alloc (.map #[] 0)) (Nat.le_trans hW.size (al_below W _).size) (HF.out.keep (Nat.le_refl _) fun b o hlt => (hb0to hW (al_below W (.map #[] 0))).cell (p := ⟨b, o, none⟩) hlt) (HF.out.below (hb0to hW (al_below W (.map #[] 0)))).p (OpenAt.below hO (al_below W (.map #[] 0))) (KnownM.made W _))
    obtain ⟨L, Ap, cp, Aq, cq⟩ := F
    go_enter Try.func30, Try.ntmps30
    go_upto_region 1 with (fail)
    have e := HW0.out
    rw [e]
    clear e
    go_region_held3 (fun w' => w'.cell? ⟨w.heap.size, 0, none⟩ = some (.slice L.Ak f.h.ks.length L.ck) ∧ w'.cell? ⟨w.heap.size, 1, none⟩ = some (.int .i64 f.h.fl) ∧ w'.cell? ⟨w.heap.size, 2, none⟩ = some (.slice L.Ap f.h.ps.length L.cp) ∧ w'.cell? ⟨w.heap.size, 3, none⟩ = some (.slice L.Ab f.h.bs.length L.cb) ∧ w'.cell? ⟨w.heap.size, 4, none⟩ = some (.slice Ap f.pk.length cp) ∧ w'.cell? ⟨w.heap.size, 5, none⟩ = some (.int .i64 f.day) ∧ w'.cell? ⟨w.heap.size, 6, none⟩ = some (.int .i64 f.nb) ∧ w'.cell? ⟨w.heap.size, 7, none⟩ = some (.slice Aq f.q.length cq)) (first | go_keep)
      (first
        | (go_at_call 70; refine (H70.out _).mono ?_; rintro e w1 ⟨rfl, rfl⟩)
        | (go_at_call 66; refine (H66.out _ (HF.out.below (by first | exact Below.refl _ _ | exact drew_below W0))).mono ?_; rintro e w2 ⟨⟨b, rfl, hbb, hO⟩, hb2⟩; have B2 := Lib.hid (by first | exact hb2 | exact hb0to (drew_below W0) hb2 : Below W0.heap.size W0 w2); have HO := Lib.hid hO; have HBB := Lib.hid hbb; clear hO hbb; obtain ⟨r0, r1, r2, r3, r4, r5, r6, r7⟩ := (HB.out.of (B2.out.block _ HB.out.lt)).cells; clear hb2))
    all_goals
      have hmm := @makes0
      go_wp2_with (go_at_call 71; refine (H71.out b w2 B2.out HO.out).mono ?_; rintro e w3 ⟨rfl, hk3, _, _⟩; have HK3 := Lib.hid hk3; clear hk3)
      go_ret2
      exact ⟨NumEnd.mk HQ0.out, KpB.under (hb0to HBW.out (hb0to B2.out (al_below w2 (.map #[] 0)))) HK3.out (hb0to HBW.out (hb0to B2.out (al_below w2 (.map #[] 0)))).size (fun k hk => by have h1 : W0.heap.size ≤ b := HBB.out; have h2 := HBW.out.size; have h3 := B2.out.size; rcases hk with rfl | rfl <;> omega)⟩
  · have H66 := Lib.hid (fun W hW => open_no F f is HN.out W hW h0)
    obtain ⟨er, her⟩ : ∃ x, x = askF f is := ⟨_, rfl⟩
    have HQ := Lib.hid her
    rw [← her] at H66 h0
    have hd : (er != 0) = true := bne_iff_ne.2 h0
    clear h0 her his
    obtain ⟨L, Ap, cp, Aq, cq⟩ := F
    go_enter Try.func30, Try.ntmps30
    go_upto_region 1 with (fail)
    have e := HW0.out
    rw [e]
    clear e
    go_region_held3 (fun w' => w'.cell? ⟨w.heap.size, 0, none⟩ = some (.slice L.Ak f.h.ks.length L.ck) ∧ w'.cell? ⟨w.heap.size, 1, none⟩ = some (.int .i64 f.h.fl) ∧ w'.cell? ⟨w.heap.size, 2, none⟩ = some (.slice L.Ap f.h.ps.length L.cp) ∧ w'.cell? ⟨w.heap.size, 3, none⟩ = some (.slice L.Ab f.h.bs.length L.cb) ∧ w'.cell? ⟨w.heap.size, 4, none⟩ = some (.slice Ap f.pk.length cp) ∧ w'.cell? ⟨w.heap.size, 5, none⟩ = some (.int .i64 f.day) ∧ w'.cell? ⟨w.heap.size, 6, none⟩ = some (.int .i64 f.nb) ∧ w'.cell? ⟨w.heap.size, 7, none⟩ = some (.slice Aq f.q.length cq)) (first | go_keep)
      (first
        | (go_at_call 70; refine (H70.out _).mono ?_; rintro e w1 ⟨rfl, rfl⟩)
        | (go_at_call 66; refine (H66.out _ (HF.out.below (by first | exact Below.refl _ _ | exact drew_below W0))).mono ?_; rintro e w2 ⟨rfl, hb2⟩; have B2 := Lib.hid (by first | exact hb2 | exact hb0to (drew_below W0) hb2 : Below W0.heap.size W0 w2); obtain ⟨r0, r1, r2, r3, r4, r5, r6, r7⟩ := (HB.out.of (B2.out.block _ HB.out.lt)).cells; clear hb2))
    all_goals
      go_wp2_with (fail)
      go_ret2
      exact ⟨NumEnd.mk (by unfold onRet; rw [← HIS.out]; exact numRF_no HQ.out (bne_iff_ne.1 hd)), hb0to HBW.out B2.out⟩
set_option maxRecDepth 100000 in
set_option maxHeartbeats 4000000 in
theorem When_any (F : FL) (f : Fair) (hn : FN f) (w : World) (hF : FairAt w w.heap.size F f) : Calls Try.prog 31 #[F.enc f] w fun e w' => NumEnd (whenRet f) e ∧ Below w.heap.size w w' := by
  have hbw := al_below w (.cells #[.slice F.L.Ak f.h.ks.length F.L.ck, .int .i64 f.h.fl, .slice F.L.Ap f.h.ps.length F.L.cp, .slice F.L.Ab f.h.bs.length F.L.cb, .slice F.Ap f.pk.length F.cp, .int .i64 f.day, .int .i64 f.nb, .slice F.Aq f.q.length F.cq] 29)
  have HB := Lib.hid (FBox.new w F f)
  obtain ⟨c0, c1, c2, c3, c4, c5, c6, c7⟩ := (FBox.new w F f).cells
  obtain ⟨W0, hW0⟩ : ∃ W0, w.alloc (.cells #[.slice F.L.Ak f.h.ks.length F.L.ck, .int .i64 f.h.fl, .slice F.L.Ap f.h.ps.length F.L.cp, .slice F.L.Ab f.h.bs.length F.L.cb, .slice F.Ap f.pk.length F.cp, .int .i64 f.day, .int .i64 f.nb, .slice F.Aq f.q.length F.cq] 29) = W0 := ⟨_, rfl⟩
  rw [hW0] at hbw HB c0 c1 c2 c3 c4 c5 c6 c7
  have HBW := Lib.hid hbw
  have HW0 := Lib.hid hW0
  have HF := Lib.hid (hF.below hbw)
  clear hbw hW0 hF
  have HN := Lib.hid hn
  clear hn
  by_cases h0 : askF f true = 0
  · have H66 := Lib.hid (open_yes F f true HN.out W0 HF.out h0)
    have HV := Lib.hid (askF_ok h0).1
    have HFO := Lib.hid (FOK.of HV.out)
    have HA := Lib.hid h0
    clear h0
    have hmm := @makes0
    obtain ⟨L, Ap, cp, Aq, cq⟩ := F
    go_enter Try.func31, Try.ntmps31
    go_upto_region 1 with (fail)
    have e := HW0.out
    rw [e]
    clear e
    go_wp2_with (first
      | (go_at_call 66; refine (H66.out).mono ?_; rintro e w1 ⟨⟨b, rfl, hbb, hO⟩, hb1⟩; have B1 := Lib.hid hb1; have HO := Lib.hid hO; have HBB := Lib.hid hbb; have r4 := (HB.out.of (hb1.block _ HB.out.lt)).cells.2.2.2.2.1; clear hb1 hO hbb)
      | (fail))
    clear r4
    go_loopw [20, 7, 8] (fun i s t wr => ∃ (k : Nat) (rd : List Int), k ≤ 21 ∧ i = .int .i64 k ∧ s = .int .i64 ((whenTo (fun d : Nat => dayV f d) k).1 : Nat) ∧ t = .int .i64 (whenTo (fun d : Nat => dayV f d) k).2 ∧ Hid (OpenAt wr b ⟨L, Ap, cp, Aq, cq⟩ f rd) ∧ Hid (KnownM wr w1.heap.size k (maskV f.q)) ∧ Hid (KpB (fun j => j = b ∨ j = w1.heap.size) W0.heap.size W0 wr)) (fun i _ _ _ => 21 - (intOf i).toNat)
    case atStart => exact ⟨0, _, by omega, rfl, rfl, rfl, Lib.hid (HO.out.below (al_below w1 (.map #[] 0))), Lib.hid (KnownM.made w1 _), Lib.hid (kpB_of_below (hb0to B1.out (al_below w1 (.map #[] 0))))⟩
    case round =>
      obtain ⟨k, rd, hk, rfl, rfl, rfl, hO, hM, hkp⟩ := hrel
      have hdv := dayV_bd HFO.out (k : Int)
      by_cases hlt : k < 21
      · have r4 := cell_kp hkp.out HB.out.cells.2.2.2.2.1 (fun h => by have h1 : W0.heap.size ≤ b := HBB.out; have h2 := HB.out.lt; have h3 := B1.out.size; rcases h with h | h <;> omega) HB.out.lt
        have hFr := HF.out.keep (B' := W0.heap.size) (W' := wr) (Nat.le_refl _) fun b' o hb' => hkp.out.cell hb' (fun h => by have h1 : W0.heap.size ≤ b := HBB.out; have h3 := B1.out.size; rcases h with h | h <;> omega)
        have H71 := Lib.hid (on_any ⟨L, Ap, cp, Aq, cq⟩ f HN.out HFO.out rd b w1.heap.size W0.heap.size f.pk HFO.out.p Ap cp (k : Int) k (by omega) wr hkp.out.size hFr (hFr.p.keep hkp.out.size fun _ _ _ => rfl) hO.out hM.out)
        have HW := Lib.hid (show whenTo (fun d : Nat => dayV f d) (k + 1) = whenStep (fun d : Nat => dayV f d) (whenTo (fun d : Nat => dayV f d) k) k from rfl)
        unfold whenStep at HW
        change Hid (Calls _ _ _ _ fun e w' => e = .returned (.int .i64 (dayV f (k : Int))) ∧ _) at H71
        generalize whenTo (fun d : Nat => dayV f d) k = st at HW ⊢
        obtain ⟨bs, n⟩ := st
        simp only at HW ⊢
        generalize hv : dayV f (k : Int) = v at H71 HW hdv
        clear hv hFr
        by_cases hnv : n < v
        · have hd : decide (n < v) = true := decide_eq_true hnv
          rw [if_pos hnv] at HW
          clear hnv
          go_wp2_with (go_at_call 71; refine H71.out.mono ?_; rintro e w3 ⟨rfl, hk3, hO3, hM3⟩; have HK3 := Lib.hid hk3; have HO3 := Lib.hid hO3; have HM3 := Lib.hid hM3; clear hk3 hO3 hM3)
          go_roundw
          case rel => exact ⟨k + 1, _, by omega, by go_num, by rw [HW.out], by rw [HW.out], HO3, HM3, Lib.hid (hkp.out.trans (HK3.out.mono hkp.out.size fun _ _ h => h))⟩
          case measure => simp [intOf]; omega
        · have hd : decide (n < v) = false := decide_eq_false hnv
          rw [if_neg hnv] at HW
          clear hnv
          go_wp2_with (go_at_call 71; refine H71.out.mono ?_; rintro e w3 ⟨rfl, hk3, hO3, hM3⟩; have HK3 := Lib.hid hk3; have HO3 := Lib.hid hO3; have HM3 := Lib.hid hM3; clear hk3 hO3 hM3)
          go_roundw
          case rel => exact ⟨k + 1, _, by omega, by go_num, by rw [HW.out], by rw [HW.out], HO3, HM3, Lib.hid (hkp.out.trans (HK3.out.mono hkp.out.size fun _ _ h => h))⟩
          case measure => simp [intOf]; omega
      · obtain rfl : k = 21 := by omega
        have HQ := Lib.hid (show whenRet f = ((((whenTo (fun d : Nat => dayV f d) 21).1 : Nat) : Int), (0 : Int)) from numRF_ok HA.out)
        generalize whenTo (fun d : Nat => dayV f d) 21 = st at HQ ⊢
        go_wp2_with (fail)
        go_ret2
        exact ⟨NumEnd.mk HQ.out, KpB.under HBW.out hkp.out HBW.out.size (fun j h => by have h1 : W0.heap.size ≤ b := HBB.out; have h3 := B1.out.size; have h4 := HBW.out.size; rcases h with h | h <;> omega)⟩
  · have H66 := Lib.hid (open_no F f true HN.out W0 HF.out h0)
    obtain ⟨er, her⟩ : ∃ x, x = askF f true := ⟨_, rfl⟩
    have HQ := Lib.hid her
    rw [← her] at H66 h0
    have hd : (er != 0) = true := bne_iff_ne.2 h0
    clear h0 her
    obtain ⟨L, Ap, cp, Aq, cq⟩ := F
    go_enter Try.func31, Try.ntmps31
    go_upto_region 1 with (fail)
    have e := HW0.out
    rw [e]
    clear e
    go_wp2_with (go_at_call 66; refine (H66.out).mono ?_; rintro e w1 ⟨rfl, hb1⟩; have B1 := Lib.hid hb1; clear hb1)
    go_ret2
    exact ⟨NumEnd.mk (numRF_no HQ.out (bne_iff_ne.1 hd)), hb0to HBW.out B1.out⟩

end Go.Proofs.Ytmconopnplgcfaa
