import Derived.Test.YtmconopnplgcfaaLC
import Derived.Test.YtmconopnplgcfaaFJ
import Derived.Test.YtmconopnplgcfaaFK
import Derived.Test.YtmconopnplgcfaaRI
namespace Go.Proofs.Ytmconopnplgcfaa
open Go.RowKit

/-! The law's words: Huge 39, ready 16, most 25, winners 20, won 21. -/
def hugeF (f : Fair) : Bool := hugeB f.h || (decide (40 < f.pk.length) || (decide (40 < f.q.length) || f.q.any fun b => decide (40 < b.bar.length)))
theorem hugeF_no {f : Fair} (h : hugeF f = false) : hugeB f.h = false ∧ f.pk.length ≤ 40 ∧ f.q.length ≤ 40 ∧ ∀ b ∈ f.q, b.bar.length ≤ 40 := by
  simp only [hugeF, Bool.or_eq_false_iff, decide_eq_false_iff_not, List.any_eq_false, decide_eq_true_eq] at h
  exact ⟨h.1, by omega, by omega, fun b hb => by have := h.2.2.2 b hb; omega⟩
theorem hugeF_fn {f : Fair} (h : hugeF f = false) : FN f := by
  obtain ⟨h1, h2, h3, h4⟩ := hugeF_no h
  obtain ⟨k1, k2, k3⟩ := huge_no h1
  exact ⟨⟨by omega, by omega, by omega⟩, by omega, by omega, fun b hb => by have := h4 b hb; omega⟩
theorem hugeF_yes {f : Fair} {k : Nat} {b : Bid} (hb : f.q[k]? = some b) (h : 40 < b.bar.length) : hugeF f = true := by
  have : (f.q.any fun b => decide (40 < b.bar.length)) = true := List.any_eq_true.2 ⟨b, List.mem_of_getElem? hb, by simpa using h⟩
  simp [hugeF, this]
theorem hugeF_all {f : Fair} (h1 : hugeB f.h = false) (h2 : f.pk.length ≤ 40) (h3 : f.q.length ≤ 40) (h : ∀ j x, j < f.q.length → f.q[j]? = some x → x.bar.length ≤ 40) : hugeF f = false := by
  simp only [hugeF, h1, Bool.false_or, Bool.or_eq_false_iff, decide_eq_false_iff_not, List.any_eq_false, decide_eq_true_eq]
  refine ⟨by omega, by omega, fun b hb => ?_⟩
  obtain ⟨j, hj⟩ := List.getElem?_of_mem hb
  have := h j b (List.getElem?_eq_some_iff.1 hj).1 hj
  omega
set_option maxRecDepth 100000 in
set_option maxHeartbeats 4000000 in
theorem hugeF_any (F : FL) (f : Fair) (w : World) (hF : FairAt w w.heap.size F f) : Calls Try.prog 39 #[F.enc f] w fun e w' => e = .returned (.bool (hugeF f)) ∧ Below w.heap.size w w' := by
  have hbw := al_below w (.cells #[.slice F.L.Ak f.h.ks.length F.L.ck, .int .i64 f.h.fl, .slice F.L.Ap f.h.ps.length F.L.cp, .slice F.L.Ab f.h.bs.length F.L.cb, .slice F.Ap f.pk.length F.cp, .int .i64 f.day, .int .i64 f.nb, .slice F.Aq f.q.length F.cq] 29)
  have HB := Lib.hid (FBox.new w F f)
  obtain ⟨c0, c1, c2, c3, c4, c5, c6, c7⟩ := (FBox.new w F f).cells
  obtain ⟨W0, hW0⟩ : ∃ W0, w.alloc (.cells #[.slice F.L.Ak f.h.ks.length F.L.ck, .int .i64 f.h.fl, .slice F.L.Ap f.h.ps.length F.L.cp, .slice F.L.Ab f.h.bs.length F.L.cb, .slice F.Ap f.pk.length F.cp, .int .i64 f.day, .int .i64 f.nb, .slice F.Aq f.q.length F.cq] 29) = W0 := ⟨_, rfl⟩
  rw [hW0] at hbw HB c0 c1 c2 c3 c4 c5 c6 c7
  have HBW := Lib.hid hbw
  have HW0 := Lib.hid hW0
  have HF := Lib.hid (hF.below hbw)
  clear hbw hW0 hF
  have H76 := Lib.hid (fun W => huge_any F.L f.h W)
  obtain ⟨L, Ap, cp, Aq, cq⟩ := F
  cases h1 : hugeB f.h
  · rw [h1] at H76
    by_cases p1 : 40 < f.pk.length
    · have hv : hugeF f = true := by simp [hugeF, p1]
      rw [hv]; clear hv
      go_enter Try.func39, Try.ntmps39
      go_upto_region 1 with (fail)
      have e := HW0.out
      rw [e]
      clear e
      go_wp2_with (go_at_call 76; refine (H76.out W0).mono ?_; rintro e w1 ⟨rfl, hb1⟩; have B1 := Lib.hid hb1; obtain ⟨c0, c1, c2, c3, c4, c5, c6, c7⟩ := (HB.out.of (hb1.block _ HB.out.lt)).cells; clear hb1)
      go_ret
      exact ⟨congrArg (fun b => Ending.returned (.bool b)) (by first | rfl | (simp; done) | (simp; omega)), hb0to HBW.out B1.out⟩
    · have p2 : f.pk.length ≤ 40 := by omega
      by_cases q1 : 40 < f.q.length
      · have hv : hugeF f = true := by simp [hugeF, q1]
        rw [hv]; clear hv p1
        go_enter Try.func39, Try.ntmps39
        go_upto_region 1 with (fail)
        have e := HW0.out
        rw [e]
        clear e
        go_wp2_with (go_at_call 76; refine (H76.out W0).mono ?_; rintro e w1 ⟨rfl, hb1⟩; have B1 := Lib.hid hb1; obtain ⟨c0, c1, c2, c3, c4, c5, c6, c7⟩ := (HB.out.of (hb1.block _ HB.out.lt)).cells; clear hb1)
        go_ret
        exact ⟨congrArg (fun b => Ending.returned (.bool b)) (by first | rfl | (simp; done) | (simp; omega)), hb0to HBW.out B1.out⟩
      · have q2 : f.q.length ≤ 40 := by omega
        clear p1 q1
        go_enter Try.func39, Try.ntmps39
        go_upto_region 1 with (fail)
        have e := HW0.out
        rw [e]
        clear e
        go_wp2_with (go_at_call 76; refine (H76.out W0).mono ?_; rintro e w1 ⟨rfl, hb1⟩; have B1 := Lib.hid hb1; obtain ⟨c0, c1, c2, c3, c4, c5, c6, c7⟩ := (HB.out.of (hb1.block _ HB.out.lt)).cells; clear hb1)
        go_loopw [3] (fun i wr => ∃ k : Nat, k ≤ f.q.length ∧ i = .int .i64 k ∧ Hid (∀ j x, j < k → f.q[j]? = some x → x.bar.length ≤ 40) ∧ Hid (Below W0.heap.size W0 wr)) (fun i _ => f.q.length - (intOf i).toNat)
        case atStart => exact ⟨0, Nat.zero_le _, rfl, Lib.hid (fun j x h => absurd h (by omega)), B1⟩
        case round =>
          obtain ⟨k, hk, rfl, hall, hb⟩ := hrel
          obtain ⟨c0, c1, c2, c3, c4, c5, c6, c7⟩ := (HB.out.of (hb.out.block _ HB.out.lt)).cells
          by_cases hlt : k < f.q.length
          · obtain ⟨x, hx⟩ : ∃ x, f.q[k]? = some x := ⟨_, List.getElem?_eq_getElem hlt⟩
            obtain ⟨bk, ok, A', c', rfl, hbk, d1, d2, d3, hA', hI⟩ := HF.out.q.at_ hx
            have e2 := below_cell hb.out d2
            have HX := Lib.hid hx
            clear d1 d2 d3 hA' hI hx
            by_cases hbar : 40 < x.bar.length
            · have hv : hugeF f = true := hugeF_yes HX.out hbar
              have HV := Lib.hid hv
              clear hv
              go_wp2_with (fail)
              go_ret
              exact ⟨(congrArg (fun b => Ending.returned (.bool b)) HV.out).symm, hb0to HBW.out hb.out⟩
            · have hbar2 : x.bar.length ≤ 40 := by omega
              go_wp2_with (fail)
              go_roundw
              case rel => exact ⟨k + 1, by omega, by go_num, Lib.hid (fun j y hj hy => by
                  rcases Nat.lt_succ_iff_lt_or_eq.1 hj with h | rfl
                  · exact hall.out j y h hy
                  · have := HX.out; rw [hy] at this; cases this; exact hbar2), hb⟩
              case measure => simp [intOf]; omega
          · obtain rfl : k = f.q.length := by omega
            have hv : hugeF f = false := hugeF_all h1 p2 q2 hall.out
            have HV := Lib.hid hv
            clear hv
            go_wp2_with (fail)
            go_ret
            exact ⟨(congrArg (fun b => Ending.returned (.bool b)) HV.out).symm, hb0to HBW.out hb.out⟩
  · rw [h1] at H76
    have hv : hugeF f = true := by simp [hugeF, h1]
    rw [hv]; clear hv
    go_enter Try.func39, Try.ntmps39
    go_upto_region 1 with (fail)
    have e := HW0.out
    rw [e]
    clear e
    go_wp2_with (go_at_call 76; refine (H76.out W0).mono ?_; rintro e w1 ⟨rfl, hb1⟩; have B1 := Lib.hid hb1; obtain ⟨c0, c1, c2, c3, c4, c5, c6, c7⟩ := (HB.out.of (hb1.block _ HB.out.lt)).cells; clear hb1)
    go_ret
    exact ⟨rfl, hb0to HBW.out B1.out⟩
/-- A fair that is not too large, and valid. -/
def readyB9 (f : Fair) : Bool := !hugeF f && decide (ckF f = 0)
theorem readyB9_iff {f : Fair} : readyB9 f = true ↔ hugeF f = false ∧ validF f = true := by
  simp [readyB9, ckF_iff]
set_option maxRecDepth 100000 in
set_option maxHeartbeats 4000000 in
theorem readyF_any (F : FL) (f : Fair) (w : World) (hF : FairAt w w.heap.size F f) : Calls Try.prog 16 #[F.enc f] w fun e w' => e = .returned (.bool (readyB9 f)) ∧ Below w.heap.size w w' := by
  have hbw := al_below w (.cells #[.slice F.L.Ak f.h.ks.length F.L.ck, .int .i64 f.h.fl, .slice F.L.Ap f.h.ps.length F.L.cp, .slice F.L.Ab f.h.bs.length F.L.cb, .slice F.Ap f.pk.length F.cp, .int .i64 f.day, .int .i64 f.nb, .slice F.Aq f.q.length F.cq] 29)
  have HB := Lib.hid (FBox.new w F f)
  obtain ⟨c0, c1, c2, c3, c4, c5, c6, c7⟩ := (FBox.new w F f).cells
  obtain ⟨W0, hW0⟩ : ∃ W0, w.alloc (.cells #[.slice F.L.Ak f.h.ks.length F.L.ck, .int .i64 f.h.fl, .slice F.L.Ap f.h.ps.length F.L.cp, .slice F.L.Ab f.h.bs.length F.L.cb, .slice F.Ap f.pk.length F.cp, .int .i64 f.day, .int .i64 f.nb, .slice F.Aq f.q.length F.cq] 29) = W0 := ⟨_, rfl⟩
  rw [hW0] at hbw HB c0 c1 c2 c3 c4 c5 c6 c7
  have HBW := Lib.hid hbw
  have HW0 := Lib.hid hW0
  have HF := Lib.hid (hF.below hbw)
  clear hbw hW0 hF
  have H39 := Lib.hid (hugeF_any F f W0 HF.out)
  cases h1 : hugeF f
  · rw [h1] at H39
    have H48 := Lib.hid (fun W hW => rcheckF_any F f (hugeF_fn h1) W hW)
    have hv : readyB9 f = decide (ckF f = 0) := by simp [readyB9, h1]
    rw [hv]
    generalize ckF f = n at H48
    clear hv h1
    obtain ⟨L, Ap, cp, Aq, cq⟩ := F
    go_enter Try.func16, Try.ntmps16
    go_upto_region 1 with (fail)
    have e := HW0.out
    rw [e]
    clear e
    go_wp2_with (first
      | (go_at_call 39; refine H39.out.mono ?_; rintro e w1 ⟨rfl, hb1⟩; have B1 := Lib.hid hb1; obtain ⟨c0, c1, c2, c3, c4, c5, c6, c7⟩ := (HB.out.of (hb1.block _ HB.out.lt)).cells; clear hb1)
      | (go_at_call 48; refine (H48.out _ (HF.out.below B1.out)).mono ?_; rintro e w2 ⟨rfl, hb2⟩; have B2 := Lib.hid (hb0to B1.out hb2); clear hb2))
    go_ret
    exact ⟨congrArg (fun b => Ending.returned (.bool b)) (by first | rfl | (by_cases hz : n = 0 <;> simp [hz])), hb0to HBW.out B2.out⟩
  · rw [h1] at H39
    have hv : readyB9 f = false := by simp [readyB9, h1]
    rw [hv]
    clear hv h1
    obtain ⟨L, Ap, cp, Aq, cq⟩ := F
    go_enter Try.func16, Try.ntmps16
    go_upto_region 1 with (fail)
    have e := HW0.out
    rw [e]
    clear e
    go_wp2_with (go_at_call 39; refine H39.out.mono ?_; rintro e w1 ⟨rfl, hb1⟩; have B1 := Lib.hid hb1; clear hb1)
    go_ret
    exact ⟨rfl, hb0to HBW.out B1.out⟩

end Go.Proofs.Ytmconopnplgcfaa
namespace Go.Proofs.Ytmconopnplgcfaa
open Go.RowKit

/-! most 25, winners 20, won 21. -/
/-- What the best sales of a valid fair bring. -/
def mW (f : Fair) : Int := mostV f.q (rdF f)
def wL (f : Fair) : List Nat := winL f.q (rdF f)
theorem FOK.pos' {f : Fair} (h : FOK f) : ∀ b ∈ f.q, 0 ≤ b.pay := fun b hb => (h.pay b hb).1
theorem mW_bd {f : Fair} (h : FOK f) : 0 ≤ mW f ∧ mW f ≤ 792 := by
  have h1 := mostTo_bd h.ql h.pay allM (setsL f.q (rdF f))
  have h2 := (mostV_is (rd := rdF f) h.ql h.pos').all_nonneg
  unfold mW
  unfold mostV at h2 ⊢
  omega
theorem ask_valid {f : Fair} (hv : validF f = true) : askF f true = 0 := by simp [askF, hv]
theorem wL_win {f : Fair} (h : FOK f) : WinIs f.q (rdF f) (wL f) := (win_of_sets h.ql h.pos').2
theorem wL_len {f : Fair} (h : FOK f) : (wL f).length ≤ f.q.length := bits_len _ _
theorem wL_sale {f : Fair} (h : FOK f) : isSaleB f.q (rdF f) (intsN (wL f)) = true := by
  have hs := (wL_win h).sale
  have he : (intsN (wL f)).map Int.toNat = wL f := by simp [intsN, Function.comp_def]
  unfold isSaleB
  rw [he, saleB_iff.2 hs, Bool.and_true, rise_iff]
  exact ⟨intsN_up hs.up, fun x hx => by
    obtain ⟨i, hi, rfl⟩ := List.mem_map.1 hx
    have := hs.lt hi
    omega⟩
set_option maxRecDepth 100000 in
set_option maxHeartbeats 4000000 in
theorem mostF_any (F : FL) (f : Fair) (hn : FN f) (hv : validF f = true) (w : World) (hF : FairAt w w.heap.size F f) : Calls Try.prog 25 #[F.enc f] w fun e w' => e = .returned (.int .i64 (mW f)) ∧ Below w.heap.size w w' := by
  have hbw := al_below w (.cells #[.slice F.L.Ak f.h.ks.length F.L.ck, .int .i64 f.h.fl, .slice F.L.Ap f.h.ps.length F.L.cp, .slice F.L.Ab f.h.bs.length F.L.cb, .slice F.Ap f.pk.length F.cp, .int .i64 f.day, .int .i64 f.nb, .slice F.Aq f.q.length F.cq] 29)
  have HB := Lib.hid (FBox.new w F f)
  obtain ⟨c0, c1, c2, c3, c4, c5, c6, c7⟩ := (FBox.new w F f).cells
  obtain ⟨W0, hW0⟩ : ∃ W0, w.alloc (.cells #[.slice F.L.Ak f.h.ks.length F.L.ck, .int .i64 f.h.fl, .slice F.L.Ap f.h.ps.length F.L.cp, .slice F.L.Ab f.h.bs.length F.L.cb, .slice F.Ap f.pk.length F.cp, .int .i64 f.day, .int .i64 f.nb, .slice F.Aq f.q.length F.cq] 29) = W0 := ⟨_, rfl⟩
  rw [hW0] at hbw HB c0 c1 c2 c3 c4 c5 c6 c7
  have HBW := Lib.hid hbw
  have HW0 := Lib.hid hW0
  have HF := Lib.hid (hF.below hbw)
  clear hbw hW0 hF
  have H40 := Lib.hid (Most_any F f hn W0 HF.out)
  have hbd := mW_bd (FOK.of hv)
  have hm : mostRet f = (mW f, 0) := numRF_ok (ask_valid hv)
  rw [hm] at H40
  obtain ⟨n, hnn⟩ : ∃ n, mW f = n := ⟨_, rfl⟩
  rw [hnn] at H40 hbd ⊢
  have d1 : decide (n < 0) = false := decide_eq_false (by omega)
  have d2 : decide (1000 ≤ n) = false := decide_eq_false (by omega)
  clear hnn hm hv hn
  obtain ⟨L, Ap, cp, Aq, cq⟩ := F
  go_enter Try.func25, Try.ntmps25
  go_upto_region 1 with (fail)
  have e := HW0.out
  rw [e]
  clear e
  go_wp2_with (go_at_call 40; refine H40.out.mono ?_; rintro e w1 ⟨rfl, hb1⟩; have B1 := Lib.hid hb1; clear hb1)
  go_ret
  exact ⟨rfl, hb0to HBW.out B1.out⟩
set_option maxRecDepth 100000 in
set_option maxHeartbeats 4000000 in
theorem winnersF_any (F : FL) (f : Fair) (hn : FN f) (hv : validF f = true) (w : World) (hF : FairAt w w.heap.size F f) : Calls Try.prog 20 #[F.enc f] w fun e w' => (∃ A c, e = .returned (.tuple #[.slice A (wL f).length c, .bool true]) ∧ IntsAt w' w'.heap.size A (intsN (wL f))) ∧ Below w.heap.size w w' := by
  have hbw := al_below w (.cells #[.slice F.L.Ak f.h.ks.length F.L.ck, .int .i64 f.h.fl, .slice F.L.Ap f.h.ps.length F.L.cp, .slice F.L.Ab f.h.bs.length F.L.cb, .slice F.Ap f.pk.length F.cp, .int .i64 f.day, .int .i64 f.nb, .slice F.Aq f.q.length F.cq] 29)
  have HB := Lib.hid (FBox.new w F f)
  obtain ⟨c0, c1, c2, c3, c4, c5, c6, c7⟩ := (FBox.new w F f).cells
  obtain ⟨W0, hW0⟩ : ∃ W0, w.alloc (.cells #[.slice F.L.Ak f.h.ks.length F.L.ck, .int .i64 f.h.fl, .slice F.L.Ap f.h.ps.length F.L.cp, .slice F.L.Ab f.h.bs.length F.L.cb, .slice F.Ap f.pk.length F.cp, .int .i64 f.day, .int .i64 f.nb, .slice F.Aq f.q.length F.cq] 29) = W0 := ⟨_, rfl⟩
  rw [hW0] at hbw HB c0 c1 c2 c3 c4 c5 c6 c7
  have HBW := Lib.hid hbw
  have HW0 := Lib.hid hW0
  have HF := Lib.hid (hF.below hbw)
  clear hbw hW0 hF
  have hf := FOK.of hv
  have H42 := Lib.hid (Winners_any F f hn W0 HF.out)
  have hw : winRet f = (intsN (wL f), 0) := listRF_ok (ask_valid hv)
  rw [hw] at H42
  have hll := wL_len hf
  have hql := hf.ql
  have hl := intsN_len (wL f)
  have H56 := Lib.hid (fun A c W (hb : Below W0.heap.size W0 W) hI => rIsSale_any F f hn hf (intsN (wL f)) (by omega) A c W (HF.out.below hb) hI)
  rw [wL_sale hf, hl] at H56
  obtain ⟨l, hle⟩ : ∃ l, intsN (wL f) = l := ⟨_, rfl⟩
  rw [hle] at H42 H56 hl ⊢
  obtain ⟨m, hme⟩ : ∃ m, (wL f).length = m := ⟨_, rfl⟩
  rw [hme] at hll hl H56 ⊢
  have HLM := Lib.hid hl
  have d1 : decide ((m : Int) ≤ (f.q.length : Int)) = true := decide_eq_true (by omega)
  clear hw hf hle hme hv hn hl
  obtain ⟨L, Ap, cp, Aq, cq⟩ := F
  go_enter Try.func20, Try.ntmps20
  go_upto_region 1 with (fail)
  have e := HW0.out
  rw [e]
  clear e
  go_wp2_with (first
    | (go_at_call 42; refine H42.out.mono ?_; rintro e w1 ⟨⟨v, rfl, hvI⟩, hb1⟩; obtain ⟨A1, k1, rfl, -, -, hI1⟩ := ints_slice hvI; rw [HLM.out]; have B1 := Lib.hid hb1; have I1 := Lib.hid hI1; obtain ⟨c0, c1, c2, c3, c4, c5, c6, c7⟩ := (HB.out.of (hb1.block _ HB.out.lt)).cells; clear hb1 hvI hI1)
    | (go_at_call 56; refine (H56.out A1 k1 w1 B1.out I1.out).mono ?_; rintro e w2 ⟨rfl, hb2⟩; have B2 := Lib.hid (hb0to B1.out hb2); have I2 := Lib.hid (ints_later I1.out hb2); clear hb2))
  go_ret2
  exact ⟨⟨A1, k1, rfl, I2.out⟩, hb0to HBW.out B2.out⟩
/-- The bid of a buyer among some. -/
def wonI (q : List Bid) (l : List Nat) (v : Int) : Int := match l.find? (ownP q v) with | some i => (i : Int) | none => -1
theorem find_at {p : Nat → Bool} : ∀ {l : List Nat} {k n : Nat}, l[k]? = some n → p n = true → (∀ j i, j < k → l[j]? = some i → p i = false) → l.find? p = some n
  | [], k, n, h, _, _ => by simp at h
  | x :: xs, 0, n, h, hp, _ => by
    simp at h; subst h
    simp [List.find?_cons, hp]
  | x :: xs, k + 1, n, h, hp, hb => by
    have h0 := hb 0 x (by omega) rfl
    rw [List.find?_cons, h0]
    exact find_at (k := k) (by simpa using h) hp fun j i hj hi => hb (j + 1) i (by omega) (by simpa using hi)
theorem wonI_at {q : List Bid} {l : List Nat} {v : Int} {k n : Nat} (h : l[k]? = some n) (hp : ownP q v n = true) (hb : ∀ j i, j < k → l[j]? = some i → ownP q v i = false) : wonI q l v = n := by
  unfold wonI; rw [find_at h hp hb]
theorem wonI_no {q : List Bid} {l : List Nat} {v : Int} (hb : ∀ j i, j < l.length → l[j]? = some i → ownP q v i = false) : wonI q l v = -1 := by
  unfold wonI
  have : l.find? (ownP q v) = none := List.find?_eq_none.2 fun x hx => by
    obtain ⟨j, hj⟩ := List.getElem?_of_mem hx
    rw [hb j x (List.getElem?_eq_some_iff.1 hj).1 hj]; simp
  rw [this]
set_option maxRecDepth 100000 in
set_option maxHeartbeats 4000000 in
theorem wonF_any (F : FL) (f : Fair) (hn : FN f) (l : List Nat) (hl : ∀ i ∈ l, i < f.q.length) (hll : l.length ≤ 1000) (A : Option Addr) (c : Nat) (v : Int) (w : World) (hF : FairAt w w.heap.size F f) (hI : IntsAt w w.heap.size A (intsN l)) : Calls Try.prog 21 #[F.enc f, .slice A l.length c, .int .i64 v] w fun e w' => e = .returned (.int .i64 (wonI f.q l v)) ∧ Below w.heap.size w w' := by
  have HI0 := Lib.hid (ints_later hI (al_below w (.cells #[.slice F.L.Ak f.h.ks.length F.L.ck, .int .i64 f.h.fl, .slice F.L.Ap f.h.ps.length F.L.cp, .slice F.L.Ab f.h.bs.length F.L.cb, .slice F.Ap f.pk.length F.cp, .int .i64 f.day, .int .i64 f.nb, .slice F.Aq f.q.length F.cq] 29)))
  have hq1000 := hn.q
  clear hI hn
  have hbw := al_below w (.cells #[.slice F.L.Ak f.h.ks.length F.L.ck, .int .i64 f.h.fl, .slice F.L.Ap f.h.ps.length F.L.cp, .slice F.L.Ab f.h.bs.length F.L.cb, .slice F.Ap f.pk.length F.cp, .int .i64 f.day, .int .i64 f.nb, .slice F.Aq f.q.length F.cq] 29)
  have HB := Lib.hid (FBox.new w F f)
  obtain ⟨c0, c1, c2, c3, c4, c5, c6, c7⟩ := (FBox.new w F f).cells
  obtain ⟨W0, hW0⟩ : ∃ W0, w.alloc (.cells #[.slice F.L.Ak f.h.ks.length F.L.ck, .int .i64 f.h.fl, .slice F.L.Ap f.h.ps.length F.L.cp, .slice F.L.Ab f.h.bs.length F.L.cb, .slice F.Ap f.pk.length F.cp, .int .i64 f.day, .int .i64 f.nb, .slice F.Aq f.q.length F.cq] 29) = W0 := ⟨_, rfl⟩
  rw [hW0] at HI0 hbw HB c0 c1 c2 c3 c4 c5 c6 c7
  have HBW := Lib.hid hbw
  have HW0 := Lib.hid hW0
  have HF := Lib.hid (hF.below hbw)
  clear hbw hW0 hF
  have HL := Lib.hid hl
  clear hl
  obtain ⟨L, Ap, cp, Aq, cq⟩ := F
  go_enter Try.func21, Try.ntmps21
  go_upto_region 1 with (fail)
  have e := HW0.out
  rw [e]
  clear e
  go_wp2_with (fail)
  go_loopw [7] (fun i wr => ∃ k : Nat, k ≤ l.length ∧ i = .int .i64 k ∧ Hid (∀ j i, j < k → l[j]? = some i → ownP f.q v i = false) ∧ Hid (Below W0.heap.size W0 wr)) (fun i _ => l.length - (intOf i).toNat)
  case atStart => exact ⟨0, Nat.zero_le _, rfl, Lib.hid (fun j i h => absurd h (by omega)), Lib.hid (Below.refl _ _)⟩
  case round =>
    obtain ⟨k, hk, rfl, hall, hb⟩ := hrel
    obtain ⟨c0, c1, c2, c3, c4, c5, c6, c7⟩ := (HB.out.of (hb.out.block _ HB.out.lt)).cells
    by_cases hlt : k < l.length
    · obtain ⟨n, hy⟩ : ∃ n, l[k]? = some n := ⟨_, List.getElem?_eq_getElem hlt⟩
      have hnq : n < f.q.length := HL.out n (List.mem_of_getElem? hy)
      obtain ⟨x, hx⟩ : ∃ x, f.q[n]? = some x := ⟨_, List.getElem?_eq_getElem hnq⟩
      obtain ⟨b1, o1, rfl, b1lt, d1⟩ := HI0.out.at_ (intsN_at hy)
      obtain ⟨bk, ok, A', c', rfl, hbk, x1, x2, x3, hA', hXI⟩ := HF.out.q.at_ hx
      have e0 := below_cell hb.out d1
      have e1 := below_cell hb.out x1
      have HY := Lib.hid hy
      have HOW := Lib.hid (own_some (v := v) hx)
      clear d1 x1 x2 x3 hA' hXI hy hx
      go_wp2_with (fail)
      go_region_held3 (fun w' => w'.cell? ⟨w.heap.size, 7, none⟩ = some (.slice (some ⟨bk, ok, none⟩) f.q.length cq) ∧ w'.cell? ⟨b1, o1 + k, none⟩ = some (.int .i64 (n : Int)) ∧ w'.cell? ⟨bk, ok + n * 3, none⟩ = some (.int .i64 x.who)) (first | go_keep) (fail)
      by_cases how : x.who = v
      · have HV := Lib.hid (wonI_at HY.out (by rw [HOW.out]; exact decide_eq_true how) hall.out)
        have hd : (x.who == v) = true := by simpa using how
        clear how
        go_wp2_with (fail)
        go_ret
        exact ⟨(congrArg (fun b => Ending.returned (.int .i64 b)) HV.out).symm, hb0to HBW.out (Below.drew hb.out)⟩
      · have hd : (x.who == v) = false := by simpa using how
        have HOF := Lib.hid (show ownP f.q v n = false by rw [HOW.out]; exact decide_eq_false how)
        clear how
        go_wp2_with (fail)
        go_roundw
        case rel => exact ⟨k + 1, by omega, by go_num, Lib.hid (fun j i hj hi => by
            rcases Nat.lt_succ_iff_lt_or_eq.1 hj with h | rfl
            · exact hall.out j i h hi
            · have := HY.out; rw [hi] at this; cases this; exact HOF.out), Lib.hid (Below.drew hb.out)⟩
        case measure => simp [intOf]; omega
    · obtain rfl : k = l.length := by omega
      have HV := Lib.hid (wonI_no hall.out)
      go_wp2_with (fail)
      go_ret
      exact ⟨(congrArg (fun b => Ending.returned (.int .i64 b)) HV.out).symm, hb0to HBW.out hb.out⟩

end Go.Proofs.Ytmconopnplgcfaa
