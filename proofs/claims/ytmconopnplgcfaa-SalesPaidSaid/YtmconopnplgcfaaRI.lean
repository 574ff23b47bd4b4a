import Derived.Test.YtmconopnplgcfaaRH
namespace Go.Proofs.Ytmconopnplgcfaa
open Go.RowKit

/-! The specification's WinnersOf 81, MostOf 79, Most 41, Winners 43, Known 108, wonOf 83, Won 44. -/
def IntsRet (l : List Int) (lo : Nat) (w' : World) (e : Ending) : Prop := ∃ A c, e = .returned (.slice A l.length c) ∧ (A = none → c = 0 ∧ l = []) ∧ IntsIn w' lo w'.heap.size A l
theorem IntsRet.of {l : List Int} {lo : Nat} {w' : World} {e : Ending} {v : Value} (he : e = .returned v) (h : Ints w' lo v l) : IntsRet l lo w' e := by
  obtain ⟨A, c, h1, h2, _, h3⟩ := h.lay
  exact ⟨A, c, by rw [he, h1], h2, h3⟩
set_option maxRecDepth 100000 in
set_option maxHeartbeats 4000000 in
theorem winnersOf_any (F : FL) (f : Fair) (hn : FN f) (hf : FOK f) (w : World) (hF : FairAt w w.heap.size F f) : Calls Try.prog 81 #[F.enc f] w fun e w' => (∃ A c, e = .returned (.slice A (winL f.q (rdF f)).length c) ∧ (A = none → c = 0 ∧ intsN (winL f.q (rdF f)) = []) ∧ IntsIn w' w.heap.size w'.heap.size A (intsN (winL f.q (rdF f)))) ∧ Below w.heap.size w w' := by
  have hbw := al_below w (.cells #[.slice F.L.Ak f.h.ks.length F.L.ck, .int .i64 f.h.fl, .slice F.L.Ap f.h.ps.length F.L.cp, .slice F.L.Ab f.h.bs.length F.L.cb, .slice F.Ap f.pk.length F.cp, .int .i64 f.day, .int .i64 f.nb, .slice F.Aq f.q.length F.cq] 29)
  have HB := Lib.hid (FBox.new w F f)
  obtain ⟨c0, c1, c2, c3, c4, c5, c6, c7⟩ := (FBox.new w F f).cells
  obtain ⟨W0, hW0⟩ : ∃ W0, w.alloc (.cells #[.slice F.L.Ak f.h.ks.length F.L.ck, .int .i64 f.h.fl, .slice F.L.Ap f.h.ps.length F.L.cp, .slice F.L.Ab f.h.bs.length F.L.cb, .slice F.Ap f.pk.length F.cp, .int .i64 f.day, .int .i64 f.nb, .slice F.Aq f.q.length F.cq] 29) = W0 := ⟨_, rfl⟩
  rw [hW0] at hbw HB c0 c1 c2 c3 c4 c5 c6 c7
  have HBW := Lib.hid hbw
  have HW0 := Lib.hid hW0
  have HF := Lib.hid (hF.below hbw)
  clear hbw hW0 hF
  have H84 := Lib.hid (rsales_any F f hn hf W0 HF.out)
  have HFO := Lib.hid hf
  have hql := hf.ql
  clear hn hf
  obtain ⟨L, Ap, cp, Aq, cq⟩ := F
  go_enter Try.func81, Try.ntmps81
  go_upto_region 1 with (fail)
  have e := HW0.out
  rw [e]
  clear e
  go_upto_region 2 with (go_at_call 84; refine H84.out.mono ?_; rintro e w1 ⟨⟨S, hS, A1, cs1, rfl, _, hR⟩, hb1⟩; have HS := Lib.hid hS; have HR := Lib.hid hR; have B1 := Lib.hid hb1; have hlen := hS.len; have hfst := hS.first; clear hb1 hR hS)
  have hS0 : 0 < S.length := (List.getElem?_eq_some_iff.1 hfst).1
  have HFI := Lib.hid hfst
  obtain ⟨b0, o0, A0, c0', eA, b0lt, t0, hA0, hI0⟩ := HR.out.at_ (show (S.map intsN)[0]? = some (intsN []) by rw [List.getElem?_map, hfst]; rfl)
  subst eA
  have HA0 := Lib.hid hA0
  have HI0 := Lib.hid hI0
  simp only [Nat.add_zero] at t0
  have t0 : w1.cell? ⟨b0, o0, none⟩ = some (.slice A0 (([] : List Nat).length) c0') := t0
  simp only [List.length_nil] at t0
  have hS0' : (0 : Int) < (S.length : Int) := by omega
  clear hfst hA0 hI0 c0 c1 c2 c3 c4 c5 c6 c7
  go_wp2_with (fail)
  clear t0
  go_loopw [4, 5] (fun s i wr => ∃ (k : Nat) (b : List Nat) (A : Option Addr) (c : Nat), k ≤ S.length ∧ i = .int .i64 k ∧ s = .slice A b.length c ∧ Hid (A = none → c = 0 ∧ intsN b = []) ∧ Hid (BestTo S (bringsL f.q) k b) ∧ Hid (IntsIn w1 W0.heap.size w1.heap.size A (intsN b)) ∧ Hid (Below w1.heap.size w1 wr)) (fun _ i _ => S.length - (intOf i).toNat)
  case atStart => exact ⟨0, [], A0, c0', Nat.zero_le _, rfl, rfl, HA0, Lib.hid (BestTo.zero HFI.out), HI0, Lib.hid (Below.refl _ _)⟩
  case round =>
    obtain ⟨k, b, A, c, hk, rfl, rfl, hA, hbt, hbi, hb⟩ := hrel
    have hbW := hb0to B1.out hb.out
    by_cases hlt : k < S.length
    · obtain ⟨l, hl⟩ : ∃ l, S[k]? = some l := ⟨_, List.getElem?_eq_getElem hlt⟩
      have hsl := (HS.out.mem l).1 (List.mem_of_getElem? hl)
      have hsb := (HS.out.mem b).1 (by obtain ⟨j, _, hj⟩ := hbt.out.mem; exact List.mem_of_getElem? hj)
      have hlen8 : ∀ {l : List Nat}, SaleL f.q (rdF f) l → l.length ≤ 8 := fun {l} h => by
        obtain ⟨m, _, e⟩ := bits_all f.q.length hql l h.up fun i hi => h.lt hi
        rw [← e]; exact Nat.le_trans (bits_len _ _) hql
      obtain ⟨b4, o4, A4, c4, eA, b4lt, t4, hA4, hI4⟩ := HR.out.at_ (show (S.map intsN)[k]? = some (intsN l) by rw [List.getElem?_map, hl]; rfl)
      cases eA
      rw [intsN_len] at t4
      have t5 := below_cell hb.out t4
      have H57a := Lib.hid (fun z => rBrings_any ⟨L, Ap, cp, Aq, cq⟩ f hql HFO.out.pay l (hlen8 hsl) (fun i hi => hsl.lt hi) A4 c4 (extB wr z) ((HF.out.below hbW).below (extB_below wr z)) (ints_later (ints_later hI4.at_ hb.out) (extB_below wr z)))
      have H57b := Lib.hid (fun z => rBrings_any ⟨L, Ap, cp, Aq, cq⟩ f hql HFO.out.pay b (hlen8 hsb) (fun i hi => hsb.lt hi) A c (extB wr z) ((HF.out.below hbW).below (extB_below wr z)) (ints_later (ints_later hbi.out.at_ hb.out) (extB_below wr z)))
      have HNX := Lib.hid (hbt.out.next HS.out.up hl)
      have HA4 := Lib.hid hA4
      have HI4 := Lib.hid hI4
      obtain ⟨g0, g1, g2, g3, g4, g5, g6, g7⟩ := (HB.out.of (hbW.block _ HB.out.lt)).cells
      have y0 := extB_cell g0
      have y1 := extB_cell g1
      have y2 := extB_cell g2
      have y3 := extB_cell g3
      have y4 := extB_cell g4
      have y5 := extB_cell g5
      have y6 := extB_cell g6
      have y7 := extB_cell g7
      have y8 := extB_cell t5
      clear hl hsl hsb hlen8 hA4 hI4 t4 g0 g1 g2 g3 g4 g5 g6 g7 hbW
      by_cases hgt : bringsL f.q b < bringsL f.q l
      · rw [if_pos hgt] at HNX
        generalize bringsL f.q l = x at H57a hgt
        generalize bringsL f.q b = y at H57b hgt
        have hd : decide (y < x) = true := decide_eq_true hgt
        clear hgt
        go_upto_region 6 with (fail)
        refine wp_region_ext (by kernel_rfl) (by kernel_rfl) ?_
        repeat (go_big_quiet_step ((first | (go_at_call 57; (with_reducible exact ext_call (H57a.out _))) | (go_at_call 57; (with_reducible exact ext_call (H57b.out _))))))
        refine wpQuiet_nil ?_
        rintro _ ⟨t1, rfl⟩
        clear y0 y1 y2 y3 y4 y5 y6 y7 y8
        have HB6 := Lib.hid (extB_below wr t1)
        obtain ⟨W6, hW6⟩ : ∃ W6, extB wr t1 = W6 := ⟨_, rfl⟩
        rw [hW6] at HB6 ⊢
        clear hW6
        have t6 := below_cell HB6.out t5
        clear t5
        go_wp2_with (fail)
        go_roundw
        case rel => exact ⟨k + 1, l, A4, c4, by omega, by go_num, rfl, HA4, HNX, HI4, Lib.hid (hb0to hb.out HB6.out)⟩
        case measure => simp [intOf]; omega
      · rw [if_neg hgt] at HNX
        generalize bringsL f.q l = x at H57a hgt
        generalize bringsL f.q b = y at H57b hgt
        have hd : decide (y < x) = false := decide_eq_false hgt
        clear hgt
        go_upto_region 6 with (fail)
        refine wp_region_ext (by kernel_rfl) (by kernel_rfl) ?_
        repeat (go_big_quiet_step ((first | (go_at_call 57; (with_reducible exact ext_call (H57a.out _))) | (go_at_call 57; (with_reducible exact ext_call (H57b.out _))))))
        refine wpQuiet_nil ?_
        rintro _ ⟨t1, rfl⟩
        clear y0 y1 y2 y3 y4 y5 y6 y7 y8
        have HB6 := Lib.hid (extB_below wr t1)
        obtain ⟨W6, hW6⟩ : ∃ W6, extB wr t1 = W6 := ⟨_, rfl⟩
        rw [hW6] at HB6 ⊢
        clear hW6
        clear t5
        go_wp2_with (fail)
        go_roundw
        case rel => exact ⟨k + 1, b, A, c, by omega, by go_num, rfl, hA, HNX, hbi, Lib.hid (hb0to hb.out HB6.out)⟩
        case measure => simp [intOf]; omega
    · obtain rfl : k = S.length := by omega
      have hwb := hbt.out.win HS.out.mem
      have hq := hwb.unique (win_of_sets HFO.out.ql HFO.out.pos).2
      subst hq
      have HBI := Lib.hid hbi.out
      have HA := Lib.hid hA.out
      clear hbt hwb hA hbi
      go_wp2_with (fail)
      go_ret
      exact ⟨⟨A, c, rfl, HA.out, HBI.out.keep HBW.out.size hb.out.size fun b o h1 h2 => hb.out.cell (p := ⟨b, o, none⟩) h2⟩, hb0to HBW.out hbW⟩
set_option maxRecDepth 100000 in
set_option maxHeartbeats 4000000 in
theorem mostOf_any (F : FL) (f : Fair) (hn : FN f) (hf : FOK f) (w : World) (hF : FairAt w w.heap.size F f) : Calls Try.prog 79 #[F.enc f] w fun e w' => e = .returned (.int .i64 (mostV f.q (rdF f))) ∧ Below w.heap.size w w' := by
  have hbw := al_below w (.cells #[.slice F.L.Ak f.h.ks.length F.L.ck, .int .i64 f.h.fl, .slice F.L.Ap f.h.ps.length F.L.cp, .slice F.L.Ab f.h.bs.length F.L.cb, .slice F.Ap f.pk.length F.cp, .int .i64 f.day, .int .i64 f.nb, .slice F.Aq f.q.length F.cq] 29)
  have HB := Lib.hid (FBox.new w F f)
  obtain ⟨c0, c1, c2, c3, c4, c5, c6, c7⟩ := (FBox.new w F f).cells
  obtain ⟨W0, hW0⟩ : ∃ W0, w.alloc (.cells #[.slice F.L.Ak f.h.ks.length F.L.ck, .int .i64 f.h.fl, .slice F.L.Ap f.h.ps.length F.L.cp, .slice F.L.Ab f.h.bs.length F.L.cb, .slice F.Ap f.pk.length F.cp, .int .i64 f.day, .int .i64 f.nb, .slice F.Aq f.q.length F.cq] 29) = W0 := ⟨_, rfl⟩
  rw [hW0] at hbw HB c0 c1 c2 c3 c4 c5 c6 c7
  have HBW := Lib.hid hbw
  have HW0 := Lib.hid hW0
  have HF := Lib.hid (hF.below hbw)
  clear hbw hW0 hF
  have H81 := Lib.hid (fun W hW => winnersOf_any F f hn hf W hW)
  have HFO := Lib.hid hf
  have hql := hf.ql
  have hw8 : (winL f.q (rdF f)).length ≤ 8 := Nat.le_trans (bits_len _ _) hf.ql
  have HQ := Lib.hid (mostV_win (rd := rdF f) hf.ql hf.pos)
  have H57 := Lib.hid (fun A c W hW hI => rBrings_any F f hql hf.pay (winL f.q (rdF f)) hw8 (fun i hi => bits_lt hi) A c W hW hI)
  clear hn hf
  obtain ⟨L, Ap, cp, Aq, cq⟩ := F
  generalize winL f.q (rdF f) = wl at H81 HQ H57
  go_enter Try.func79, Try.ntmps79
  go_upto_region 1 with (fail)
  have e := HW0.out
  rw [e]
  clear e
  go_region_held3 (fun w' => w'.cell? ⟨w.heap.size, 0, none⟩ = some (.slice L.Ak f.h.ks.length L.ck) ∧ w'.cell? ⟨w.heap.size, 1, none⟩ = some (.int .i64 f.h.fl) ∧ w'.cell? ⟨w.heap.size, 2, none⟩ = some (.slice L.Ap f.h.ps.length L.cp) ∧ w'.cell? ⟨w.heap.size, 3, none⟩ = some (.slice L.Ab f.h.bs.length L.cb) ∧ w'.cell? ⟨w.heap.size, 4, none⟩ = some (.slice Ap f.pk.length cp) ∧ w'.cell? ⟨w.heap.size, 5, none⟩ = some (.int .i64 f.day) ∧ w'.cell? ⟨w.heap.size, 6, none⟩ = some (.int .i64 f.nb) ∧ w'.cell? ⟨w.heap.size, 7, none⟩ = some (.slice Aq f.q.length cq)) (first | go_keep)
    (first
      | (go_at_call 81; refine (H81.out _ (HF.out.below (by first | exact Below.refl _ _ | exact drew_below W0))).mono ?_; rintro e w1 ⟨⟨A1, c1, rfl, _, hI1⟩, hb1⟩; have hk1 : Below W0.heap.size W0 w1 := (by first | exact hb1 | exact hb0to (drew_below W0) hb1); have B1 := Lib.hid hk1; have HI1 := Lib.hid hI1.at_; obtain ⟨r0, r1, r2, r3, r4, r5, r6, r7⟩ := (HB.out.of (hk1.block _ HB.out.lt)).cells; clear hb1 hk1 hI1)
      | (go_at_call 57; refine (H57.out A1 c1 w1 (HF.out.below B1.out) HI1.out).mono ?_; rintro e w2 ⟨rfl, hb2⟩; have B2 := Lib.hid (hb0to B1.out hb2); obtain ⟨r0, r1, r2, r3, r4, r5, r6, r7⟩ := (HB.out.of (B2.out.block _ HB.out.lt)).cells; clear hb2))
  all_goals
    go_wp2_with (fail)
    go_ret
    exact ⟨by rw [HQ.out]; rfl, hb0to HBW.out B2.out⟩
set_option maxRecDepth 100000 in
set_option maxHeartbeats 4000000 in
theorem rMost_any (F : FL) (f : Fair) (hn : FN f) (w : World) (hF : FairAt w w.heap.size F f) : Calls Try.prog 41 #[F.enc f] w fun e w' => NumEnd (mostRet f) e ∧ Below w.heap.size w w' := by
  have hbw := al_below w (.cells #[.slice F.L.Ak f.h.ks.length F.L.ck, .int .i64 f.h.fl, .slice F.L.Ap f.h.ps.length F.L.cp, .slice F.L.Ab f.h.bs.length F.L.cb, .slice F.Ap f.pk.length F.cp, .int .i64 f.day, .int .i64 f.nb, .slice F.Aq f.q.length F.cq] 29)
  have HB := Lib.hid (FBox.new w F f)
  obtain ⟨c0, c1, c2, c3, c4, c5, c6, c7⟩ := (FBox.new w F f).cells
  obtain ⟨W0, hW0⟩ : ∃ W0, w.alloc (.cells #[.slice F.L.Ak f.h.ks.length F.L.ck, .int .i64 f.h.fl, .slice F.L.Ap f.h.ps.length F.L.cp, .slice F.L.Ab f.h.bs.length F.L.cb, .slice F.Ap f.pk.length F.cp, .int .i64 f.day, .int .i64 f.nb, .slice F.Aq f.q.length F.cq] 29) = W0 := ⟨_, rfl⟩
  rw [hW0] at hbw HB c0 c1 c2 c3 c4 c5 c6 c7
  have HBW := Lib.hid hbw
  have HW0 := Lib.hid hW0
  have HF := Lib.hid (hF.below hbw)
  clear hbw hW0 hF
  have HC := Lib.hid (rcheckF_any F f hn W0 HF.out)
  have HN := Lib.hid hn
  clear hn
  cases hv : validF f
  · rw [ckF_no hv] at HC
    have HQ := Lib.hid (show mostRet f = (0, 90) from numRF_no (askF_bad true hv).symm (by omega))
    obtain ⟨L, Ap, cp, Aq, cq⟩ := F
    clear hv
    go_enter Try.func41, Try.ntmps41
    go_upto_region 1 with (fail)
    have e := HW0.out
    rw [e]
    clear e
    go_wp2_with (go_at_call 48; refine HC.out.mono ?_; rintro e w1 ⟨rfl, hb1⟩; have B1 := Lib.hid hb1; clear hb1)
    go_ret2
    exact ⟨NumEnd.mk HQ.out, hb0to HBW.out B1.out⟩
  · rw [ckF_yes hv] at HC
    have HFO := Lib.hid (FOK.of hv)
    have HV := Lib.hid hv
    have HQ := Lib.hid (show mostRet f = (mostV f.q (rdF f), 0) from numRF_ok (askF_yes hv))
    have H79 := Lib.hid (fun W hW => mostOf_any F f HN.out (FOK.of hv) W hW)
    obtain ⟨L, Ap, cp, Aq, cq⟩ := F
    clear hv
    go_enter Try.func41, Try.ntmps41
    go_upto_region 1 with (fail)
    have e := HW0.out
    rw [e]
    clear e
    go_wp2_with (first
      | (go_at_call 48; refine HC.out.mono ?_; rintro e w1 ⟨rfl, hb1⟩; have B1 := Lib.hid hb1; obtain ⟨g0, g1, g2, g3, g4, g5, g6, g7⟩ := (HB.out.of (hb1.block _ HB.out.lt)).cells; clear hb1)
      | (go_at_call 79; refine (H79.out w1 (HF.out.below B1.out)).mono ?_; rintro e w2 ⟨rfl, hb2⟩; have B2 := Lib.hid (hb0to B1.out hb2); clear hb2))
    go_ret2
    exact ⟨NumEnd.mk HQ.out, hb0to HBW.out B2.out⟩
/-- What the specification's Winners returns. -/
def ListIn (r : List Int × Int) (B : Nat) (w' : World) (e : Ending) : Prop := ∃ A c, e = .returned (.tuple #[.slice A r.1.length c, .int .i64 r.2]) ∧ (A = none → c = 0 ∧ r.1 = []) ∧ IntsIn w' B w'.heap.size A r.1
theorem ListEnd.inn {r : List Int × Int} {B : Nat} {w' : World} {e : Ending} (h : ListEnd r B w' e) : ListIn r B w' e := by
  obtain ⟨v, h1, h2⟩ := h
  obtain ⟨A, c, h3, h4, _, h5⟩ := h2.lay
  exact ⟨A, c, by rw [h1, h3], h4, h5⟩
set_option maxRecDepth 100000 in
set_option maxHeartbeats 4000000 in
theorem rWinners_any (F : FL) (f : Fair) (hn : FN f) (w : World) (hF : FairAt w w.heap.size F f) : Calls Try.prog 43 #[F.enc f] w fun e w' => ListIn (winRet f) w.heap.size w' e ∧ Below w.heap.size w w' := by
  have hbw := al_below w (.cells #[.slice F.L.Ak f.h.ks.length F.L.ck, .int .i64 f.h.fl, .slice F.L.Ap f.h.ps.length F.L.cp, .slice F.L.Ab f.h.bs.length F.L.cb, .slice F.Ap f.pk.length F.cp, .int .i64 f.day, .int .i64 f.nb, .slice F.Aq f.q.length F.cq] 29)
  have HB := Lib.hid (FBox.new w F f)
  obtain ⟨c0, c1, c2, c3, c4, c5, c6, c7⟩ := (FBox.new w F f).cells
  obtain ⟨W0, hW0⟩ : ∃ W0, w.alloc (.cells #[.slice F.L.Ak f.h.ks.length F.L.ck, .int .i64 f.h.fl, .slice F.L.Ap f.h.ps.length F.L.cp, .slice F.L.Ab f.h.bs.length F.L.cb, .slice F.Ap f.pk.length F.cp, .int .i64 f.day, .int .i64 f.nb, .slice F.Aq f.q.length F.cq] 29) = W0 := ⟨_, rfl⟩
  rw [hW0] at hbw HB c0 c1 c2 c3 c4 c5 c6 c7
  have HBW := Lib.hid hbw
  have HW0 := Lib.hid hW0
  have HF := Lib.hid (hF.below hbw)
  clear hbw hW0 hF
  have HC := Lib.hid (rcheckF_any F f hn W0 HF.out)
  have HN := Lib.hid hn
  clear hn
  cases hv : validF f
  · rw [ckF_no hv] at HC
    have HQ := Lib.hid (show winRet f = ([], 90) from listRF_no (askF_bad true hv).symm (by omega))
    obtain ⟨L, Ap, cp, Aq, cq⟩ := F
    clear hv
    go_enter Try.func43, Try.ntmps43
    go_upto_region 1 with (fail)
    have e := HW0.out
    rw [e]
    clear e
    go_wp2_with (go_at_call 48; refine HC.out.mono ?_; rintro e w1 ⟨rfl, hb1⟩; have B1 := Lib.hid hb1; clear hb1)
    go_ret2
    exact ⟨by rw [HQ.out]; exact ⟨none, 0, rfl, fun _ => ⟨rfl, rfl⟩, .inl rfl⟩, hb0to HBW.out B1.out⟩
  · rw [ckF_yes hv] at HC
    have HFO := Lib.hid (FOK.of hv)
    have HV := Lib.hid hv
    have HQ := Lib.hid (show winRet f = (intsN (winL f.q (rdF f)), 0) from listRF_ok (askF_yes hv))
    have H81 := Lib.hid (fun W hW => winnersOf_any F f HN.out (FOK.of hv) W hW)
    obtain ⟨L, Ap, cp, Aq, cq⟩ := F
    clear hv
    go_enter Try.func43, Try.ntmps43
    go_upto_region 1 with (fail)
    have e := HW0.out
    rw [e]
    clear e
    go_wp2_with (first
      | (go_at_call 48; refine HC.out.mono ?_; rintro e w1 ⟨rfl, hb1⟩; have B1 := Lib.hid hb1; obtain ⟨g0, g1, g2, g3, g4, g5, g6, g7⟩ := (HB.out.of (hb1.block _ HB.out.lt)).cells; clear hb1)
      | (go_at_call 81; refine (H81.out w1 (HF.out.below B1.out)).mono ?_; rintro e w2 ⟨⟨A2, c2, rfl, hA2, hI2⟩, hb2⟩; have B2 := Lib.hid (hb0to B1.out hb2); have HA2 := Lib.hid hA2; have HI2 := Lib.hid hI2; clear hb2 hA2 hI2))
    go_ret2
    refine ⟨?_, hb0to HBW.out B2.out⟩
    rw [HQ.out]
    exact ⟨A2, c2, by rw [intsN_len]; rfl, HA2.out, HI2.out.keep (hb0to HBW.out B1.out).size (Nat.le_refl _) fun _ _ _ _ => rfl⟩
theorem known_any (so all : Nat) (w : World) : Calls Try.prog 108 #[.int .i64 (so : Int), .int .i64 (all : Int)] w fun e w' => e = .returned (.int .i64 (knownN so all)) ∧ w = w' := by
  have hc : (so = 0 ∧ knownN so all = 2) ∨ (¬ so = 0 ∧ so = all ∧ knownN so all = 1) ∨ (¬ so = 0 ∧ ¬ so = all ∧ knownN so all = 3) := by
    unfold knownN
    by_cases a : so = 0
    · exact .inl ⟨a, if_pos a⟩
    · by_cases b : so = all
      · exact .inr (.inl ⟨a, b, by rw [if_neg a, if_pos b]⟩)
      · exact .inr (.inr ⟨a, b, by rw [if_neg a, if_neg b]⟩)
  rcases hc with ⟨a, q⟩ | ⟨a, b, q⟩ | ⟨a, b, q⟩
  · rw [q]
    have hd : ((so : Int) == 0) = true := by simp [a]
    clear a q
    go_enter Try.func108, Try.ntmps108
    go_wp2_with (fail)
    go_ret
    exact ⟨rfl, rfl⟩
  · rw [q]
    have hd : ((so : Int) == 0) = false := by simp [a]
    have hd2 : ((so : Int) == (all : Int)) = true := by simp [b]
    clear a q b
    go_enter Try.func108, Try.ntmps108
    go_wp2_with (fail)
    go_ret
    exact ⟨rfl, rfl⟩
  · rw [q]
    have hd : ((so : Int) == 0) = false := by simp [a]
    have hd2 : ((so : Int) == (all : Int)) = false := beq_eq_false_iff_ne.2 (by omega)
    clear a q b
    go_enter Try.func108, Try.ntmps108
    go_wp2_with (fail)
    go_ret
    exact ⟨rfl, rfl⟩

end Go.Proofs.Ytmconopnplgcfaa
