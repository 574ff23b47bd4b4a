import Derived.Test.YtmconopnplgcfaaRE
import Derived.Test.YtmconopnplgcfaaFK
namespace Go.Proofs.Ytmconopnplgcfaa
open Go.RowKit

/-! The specification's IsSale 56, Good 51. -/
theorem rd_len {f : Fair} : (rdF f).length ≤ f.h.bs.length := readyTo_len f.h f.pk f.day f.h.bs.length
set_option maxRecDepth 100000 in
set_option maxHeartbeats 4000000 in
theorem rIsSale_any (F : FL) (f : Fair) (hn : FN f) (hf : FOK f) (l : List Int) (hl : l.length ≤ 1000) (A : Option Addr) (c : Nat) (w : World) (hF : FairAt w w.heap.size F f) (hI : IntsAt w w.heap.size A l) :
    Calls Try.prog 56 #[F.enc f, .slice A l.length c] w fun e w' => e = .returned (.bool (isSaleB f.q (rdF f) l)) ∧ Below w.heap.size w w' := by
  have hbw := al_below w (.cells #[.slice F.L.Ak f.h.ks.length F.L.ck, .int .i64 f.h.fl, .slice F.L.Ap f.h.ps.length F.L.cp, .slice F.L.Ab f.h.bs.length F.L.cb, .slice F.Ap f.pk.length F.cp, .int .i64 f.day, .int .i64 f.nb, .slice F.Aq f.q.length F.cq] 29)
  have HB := Lib.hid (FBox.new w F f)
  obtain ⟨c0, c1, c2, c3, c4, c5, c6, c7⟩ := (FBox.new w F f).cells
  obtain ⟨W0, hW0⟩ : ∃ W0, w.alloc (.cells #[.slice F.L.Ak f.h.ks.length F.L.ck, .int .i64 f.h.fl, .slice F.L.Ap f.h.ps.length F.L.cp, .slice F.L.Ab f.h.bs.length F.L.cb, .slice F.Ap f.pk.length F.cp, .int .i64 f.day, .int .i64 f.nb, .slice F.Aq f.q.length F.cq] 29) = W0 := ⟨_, rfl⟩
  rw [hW0] at hbw HB c0 c1 c2 c3 c4 c5 c6 c7
  have HBW := Lib.hid hbw
  have HW0 := Lib.hid hW0
  have HF := Lib.hid (hF.below hbw)
  clear hbw hW0 hF
  have HI := Lib.hid (ints_later hI HBW.out)
  have H90 := Lib.hid (fun W hW => readyOf_any F f hn hf W hW)
  have hrl : (rdF f).length ≤ 1000 := Nat.le_trans rd_len hn.h.2.2
  have H93 := Lib.hid (fun W R d hW hI hR => isSale_any F f hn hf (rdF f) hrl l hl A c R d W hW hI hR)
  clear hI hn hf
  obtain ⟨L, Ap, cp, Aq, cq⟩ := F
  go_enter Try.func56, Try.ntmps56
  go_upto_region 1 with (fail)
  have e := HW0.out
  rw [e]
  clear e
  go_region_held3 (fun w' => w'.cell? ⟨w.heap.size, 0, none⟩ = some (.slice L.Ak f.h.ks.length L.ck) ∧ w'.cell? ⟨w.heap.size, 1, none⟩ = some (.int .i64 f.h.fl) ∧ w'.cell? ⟨w.heap.size, 2, none⟩ = some (.slice L.Ap f.h.ps.length L.cp) ∧ w'.cell? ⟨w.heap.size, 3, none⟩ = some (.slice L.Ab f.h.bs.length L.cb) ∧ w'.cell? ⟨w.heap.size, 4, none⟩ = some (.slice Ap f.pk.length cp) ∧ w'.cell? ⟨w.heap.size, 5, none⟩ = some (.int .i64 f.day) ∧ w'.cell? ⟨w.heap.size, 6, none⟩ = some (.int .i64 f.nb) ∧ w'.cell? ⟨w.heap.size, 7, none⟩ = some (.slice Aq f.q.length cq)) (first | go_keep)
    (first
      | (go_at_call 90; refine (H90.out _ (HF.out.below (by first | exact Below.refl _ _ | exact drew_below W0))).mono ?_; rintro e w1 ⟨⟨v1, rfl, hv1⟩, hb1⟩; have hk1 : Below W0.heap.size W0 w1 := (by first | exact hb1 | exact hb0to (drew_below W0) hb1); have B1 := Lib.hid hk1; obtain ⟨A1, c1, rfl, _, _, hI1⟩ := hv1.lay; have HI1 := Lib.hid hI1.at_; obtain ⟨r0, r1, r2, r3, r4, r5, r6, r7⟩ := (HB.out.of (hk1.block _ HB.out.lt)).cells; clear hb1 hk1 hv1 hI1)
      | (go_at_call 93; refine (H93.out w1 A1 c1 (HF.out.below B1.out) (ints_later HI.out B1.out) HI1.out).mono ?_; rintro e w2 ⟨rfl, hb2⟩; have B2 := Lib.hid (hb0to B1.out hb2); obtain ⟨r0, r1, r2, r3, r4, r5, r6, r7⟩ := (HB.out.of (B2.out.block _ HB.out.lt)).cells; clear hb2))
  all_goals
    go_wp2_with (fail)
    go_ret
    exact ⟨rfl, hb0to HBW.out B2.out⟩
set_option maxRecDepth 100000 in
set_option maxHeartbeats 4000000 in
theorem rGood_any (F : FL) (f : Fair) (hn : FN f) (l : List Int) (hl : l.length ≤ 1000) (A : Option Addr) (c : Nat) (w : World) (hF : FairAt w w.heap.size F f) (hI : IntsAt w w.heap.size A l) :
    Calls Try.prog 51 #[F.enc f, .slice A l.length c] w fun e w' => BoolEnd (goodRetF f l) e ∧ Below w.heap.size w w' := by
  have hbw := al_below w (.cells #[.slice F.L.Ak f.h.ks.length F.L.ck, .int .i64 f.h.fl, .slice F.L.Ap f.h.ps.length F.L.cp, .slice F.L.Ab f.h.bs.length F.L.cb, .slice F.Ap f.pk.length F.cp, .int .i64 f.day, .int .i64 f.nb, .slice F.Aq f.q.length F.cq] 29)
  have HB := Lib.hid (FBox.new w F f)
  obtain ⟨c0, c1, c2, c3, c4, c5, c6, c7⟩ := (FBox.new w F f).cells
  obtain ⟨W0, hW0⟩ : ∃ W0, w.alloc (.cells #[.slice F.L.Ak f.h.ks.length F.L.ck, .int .i64 f.h.fl, .slice F.L.Ap f.h.ps.length F.L.cp, .slice F.L.Ab f.h.bs.length F.L.cb, .slice F.Ap f.pk.length F.cp, .int .i64 f.day, .int .i64 f.nb, .slice F.Aq f.q.length F.cq] 29) = W0 := ⟨_, rfl⟩
  rw [hW0] at hbw HB c0 c1 c2 c3 c4 c5 c6 c7
  have HBW := Lib.hid hbw
  have HW0 := Lib.hid hW0
  have HF := Lib.hid (hF.below hbw)
  clear hbw hW0 hF
  have HC := Lib.hid (rcheckF_any F f hn W0 HF.out)
  have HN := Lib.hid hn
  have HI := Lib.hid (ints_later hI HBW.out)
  clear hn hI
  cases hv : validF f
  · rw [ckF_no hv] at HC
    have HQ := Lib.hid (show goodRetF f l = (false, 90) from boolRF_no (askF_bad true hv).symm (by omega))
    obtain ⟨L, Ap, cp, Aq, cq⟩ := F
    clear hv
    go_enter Try.func51, Try.ntmps51
    go_upto_region 1 with (fail)
    have e := HW0.out
    rw [e]
    clear e
    go_wp2_with (go_at_call 48; refine HC.out.mono ?_; rintro e w1 ⟨rfl, hb1⟩; have B1 := Lib.hid hb1; clear hb1)
    go_ret2
    exact ⟨BoolEnd.mk HQ.out, hb0to HBW.out B1.out⟩
  · rw [ckF_yes hv] at HC
    have HQ := Lib.hid (show goodRetF f l = (isSaleB f.q (rdF f) l, 0) from boolRF_ok (askF_yes hv))
    have H56 := Lib.hid (fun W hW hI => rIsSale_any F f HN.out (FOK.of hv) l hl A c W hW hI)
    obtain ⟨L, Ap, cp, Aq, cq⟩ := F
    clear hv
    go_enter Try.func51, Try.ntmps51
    go_upto_region 1 with (fail)
    have e := HW0.out
    rw [e]
    clear e
    go_wp2_with (first
      | (go_at_call 48; refine HC.out.mono ?_; rintro e w1 ⟨rfl, hb1⟩; have B1 := Lib.hid hb1; obtain ⟨g0, g1, g2, g3, g4, g5, g6, g7⟩ := (HB.out.of (hb1.block _ HB.out.lt)).cells; clear hb1)
      | (go_at_call 56; refine (H56.out w1 (HF.out.below B1.out) (ints_later HI.out B1.out)).mono ?_; rintro e w2 ⟨rfl, hb2⟩; have B2 := Lib.hid (hb0to B1.out hb2); clear hb2))
    go_ret2
    exact ⟨BoolEnd.mk HQ.out, hb0to HBW.out B2.out⟩

end Go.Proofs.Ytmconopnplgcfaa
