import Derived.Test.YtmconopnplgcfaaLC
import Derived.Test.YtmconopnplgcfaaFJ
import Derived.Test.YtmconopnplgcfaaFK
import Derived.Test.YtmconopnplgcfaaRI
namespace Go.Proofs.Ytmconopnplgcfaa
open Go.RowKit

/-! The law's words: Huge 39, ready 16, most 25, winners 20, won 21. -/
def hugeF (f : Fair) : Bool := hugeB f.h || (decide (40 < f.pk.length) || (decide (40 < f.q.length) || f.q.any fun b => decide (40 < b.bar.length)))
theorem hugeF_no {f : Fair} (h : hugeF f = false) : hugeB f.h = false ∧ f.pk.length ≤ 40 ∧ f.q.length ≤ 40 ∧ ∀ b ∈ f.q, b.bar.length ≤ 40 := by
  simp only [hugeF, Bool.or_eq_false_iff, decide_eq_false_iff_not, List.any_eq_false, decide_eq_true_eq] at h
  exact ⟨h.1, by omega, by omega, fun b hb => by have := h.2.2.2 b hb; omega⟩
theorem hugeF_fn {f : Fair} (h : hugeF f = false) : FN f := by
  obtain ⟨h1, h2, h3, h4⟩ := hugeF_no h
  obtain ⟨k1, k2, k3⟩ := huge_no h1
  exact ⟨⟨by omega, by omega, by omega⟩, by omega, by omega, fun b hb => by have := h4 b hb; omega⟩
theorem hugeF_yes {f : Fair} {k : Nat} {b : Bid} (hb : f.q[k]? = some b) (h : 40 < b.bar.length) : hugeF f = true := by
  have : (f.q.any fun b => decide (40 < b.bar.length)) = true := List.any_eq_true.2 ⟨b, List.mem_of_getElem? hb, by simpa using h⟩
  simp [hugeF, this]
theorem hugeF_all {f : Fair} (h1 : hugeB f.h = false) (h2 : f.pk.length ≤ 40) (h3 : f.q.length ≤ 40) (h : ∀ j x, j < f.q.length → f.q[j]? = some x → x.bar.length ≤ 40) : hugeF f = false := by
  simp only [hugeF, h1, Bool.false_or, Bool.or_eq_false_iff, decide_eq_false_iff_not, List.any_eq_false, decide_eq_true_eq]
  refine ⟨by omega, by omega, fun b hb => ?_⟩
  obtain ⟨j, hj⟩ := List.getElem?_of_mem hb
  have := h j b (List.getElem?_eq_some_iff.1 hj).1 hj
  omega
set_option maxRecDepth 100000 in
set_option maxHeartbeats 4000000 in
theorem hugeF_any (F : FL) (f : Fair) (w : World) (hF : FairAt w w.heap.size F f) : Calls Try.prog 39 #[F.enc f] w fun e w' => e = .returned (.bool (hugeF f)) ∧ Below w.heap.size w w' := by
  have hbw := al_below w (.cells #[.slice F.L.Ak f.h.ks.length F.L.ck, .int .i64 f.h.fl, .slice F.L.Ap f.h.ps.length F.L.cp, .slice F.L.Ab f.h.bs.length F.L.cb, .slice F.Ap f.pk.length F.cp, .int .i64 f.day, .int .i64 f.nb, .slice F.Aq f.q.length F.cq] 29)
  have HB := Lib.hid (FBox.new w F f)
  obtain ⟨c0, c1, c2, c3, c4, c5, c6, c7⟩ := (FBox.new w F f).cells
  obtain ⟨W0, hW0⟩ : ∃ W0, w.alloc (.cells #[.slice F.L.Ak f.h.ks.length F.L.ck, .int .i64 f.h.fl, .slice F.L.Ap f.h.ps.length F.L.cp, .slice F.L.Ab f.h.bs.length F.L.cb, .slice F.Ap f.pk.length F.cp, .int .i64 f.day, .int .i64 f.nb, .slice F.Aq f.q.length F.cq] 29) = W0 := ⟨_, rfl⟩
  rw [hW0] at hbw HB c0 c1 c2 c3 c4 c5 c6 c7
  have HBW := Lib.hid hbw
  have HW0 := Lib.hid hW0
  have HF := Lib.hid (hF.below hbw)
  clear hbw hW0 hF
  have H76 := Lib.hid (fun W => huge_any F.L f.h W)
  obtain ⟨L, Ap, cp, Aq, cq⟩ := F
  cases h1 : hugeB f.h
  · rw [h1] at H76
    by_cases p1 : 40 < f.pk.length
    · have hv : hugeF f = true := by simp [hugeF, p1]
      rw [hv]; clear hv
      go_enter Try.func39, Try.ntmps39
      go_upto_region 1 with (fail)
      have e := HW0.out
      rw [e]
      clear e
      go_wp2_with (go_at_call 76; refine (H76.out W0).mono ?_; rintro e w1 ⟨rfl, hb1⟩; have B1 := Lib.hid hb1; obtain ⟨c0, c1, c2, c3, c4, c5, c6, c7⟩ := (HB.out.of (hb1.block _ HB.out.lt)).cells; clear hb1)
      go_ret
      exact ⟨congrArg (fun b => Ending.returned (.bool b)) (by first | rfl | (simp; done) | (simp; omega)), hb0to HBW.out B1.out⟩
    · have p2 : f.pk.length ≤ 40 := by omega
      by_cases q1 : 40 < f.q.length
      · have hv : hugeF f = true := by simp [hugeF, q1]
        rw [hv]; clear hv p1
        go_enter Try.func39, Try.ntmps39
        go_upto_region 1 with (fail)
        have e := HW0.out
        rw [e]
        clear e
        go_wp2_with (go_at_call 76; refine (H76.out W0).mono ?_; rintro e w1 ⟨rfl, hb1⟩; have B1 := Lib.hid hb1; obtain ⟨c0, c1, c2, c3, c4, c5, c6, c7⟩ := (HB.out.of (hb1.block _ HB.out.lt)).cells; clear hb1)
        go_ret
        exact ⟨congrArg (fun b => Ending.returned (.bool b)) (by first | rfl | (simp; done) | (simp; omega)), hb0to HBW.out B1.out⟩
      · have q2 : f.q.length ≤ 40 := by omega
        clear p1 q1
        go_enter Try.func39, Try.ntmps39
        go_upto_region 1 with (fail)
        have e := HW0.out
        rw [e]
        clear e
        go_wp2_with (go_at_call 76; refine (H76.out W0).mono ?_; rintro e w1 ⟨rfl, hb1⟩; have B1 := Lib.hid hb1; obtain ⟨c0, c1, c2, c3, c4, c5, c6, c7⟩ := (HB.out.of (hb1.block _ HB.out.lt)).cells; clear hb1)
        go_loopw [3] (fun i wr => ∃ k : Nat, k ≤ f.q.length ∧ i = .int .i64 k ∧ Hid (∀ j x, j < k → f.q[j]? = some x → x.bar.length ≤ 40) ∧ Hid (Below W0.heap.size W0 wr)) (fun i _ => f.q.length - (intOf i).toNat)
        case atStart => exact ⟨0, Nat.zero_le _, rfl, Lib.hid (fun j x h => absurd h (by omega)), B1⟩
        case round =>
          obtain ⟨k, hk, rfl, hall, hb⟩ := hrel
          obtain ⟨c0, c1, c2, c3, c4, c5, c6, c7⟩ := (HB.out.of (hb.out.block _ HB.out.lt)).cells
          by_cases hlt : k < f.q.length
          · obtain ⟨x, hx⟩ : ∃ x, f.q[k]? = some x := ⟨_, List.getElem?_eq_getElem hlt⟩
            obtain ⟨bk, ok, A', c', rfl, hbk, d1, d2, d3, hA', hI⟩ := HF.out.q.at_ hx
            have e2 := below_cell hb.out d2
            have HX := Lib.hid hx
            clear d1 d2 d3 hA' hI hx
            by_cases hbar : 40 < x.bar.length
            · have hv : hugeF f = true := hugeF_yes HX.out hbar
              have HV := Lib.hid hv
              clear hv
              go_wp2_with (fail)
              go_ret
              exact ⟨(congrArg (fun b => Ending.returned (.bool b)) HV.out).symm, hb0to HBW.out hb.out⟩
            · have hbar2 : x.bar.length ≤ 40 := by omega
              go_wp2_with (fail)
              go_roundw
              case rel => exact ⟨k + 1, by omega, by go_num, Lib.hid (fun j y hj hy => by
                  rcases Nat.lt_succ_iff_lt_or_eq.1 hj with h | rfl
                  · exact hall.out j y h hy
                  · have := HX.out; rw [hy] at this; cases this; exact hbar2), hb⟩
              case measure => simp [intOf]; omega
          · obtain rfl : k = f.q.length := by omega
            have hv : hugeF f = false := hugeF_all h1 p2 q2 hall.out
            have HV := Lib.hid hv
            clear hv
            go_wp2_with (fail)
            go_ret
            exact ⟨(congrArg (fun b => Ending.returned (.bool b)) HV.out).symm, hb0to HBW.out hb.out⟩
  · rw [h1] at H76
    have hv : hugeF f = true := by simp [hugeF, h1]
    rw [hv]; clear hv
    go_enter Try.func39, Try.ntmps39
    go_upto_region 1 with (fail)
    have e := HW0.out
    rw [e]
    clear e
    go_wp2_with (go_at_call 76; refine (H76.out W0).mono ?_; rintro e w1 ⟨rfl, hb1⟩; have B1 := Lib.hid hb1; obtain ⟨c0, c1, c2, c3, c4, c5, c6, c7⟩ := (HB.out.of (hb1.block _ HB.out.lt)).cells; clear hb1)
    go_ret
    exact ⟨rfl, hb0to HBW.out B1.out⟩
/-- A fair that is not too large, and valid. -/
def readyB9 (f : Fair) : Bool := !hugeF f && decide (ckF f = 0)
theorem readyB9_iff {f : Fair} : readyB9 f = true ↔ hugeF f = false ∧ validF f = true := by
  simp [readyB9, ckF_iff]
set_option maxRecDepth 100000 in
set_option maxHeartbeats 4000000 in
theorem readyF_any (F : FL) (f : Fair) (w : World) (hF : FairAt w w.heap.size F f) : Calls Try.prog 16 #[F.enc f] w fun e w' => e = .returned (.bool (readyB9 f)) ∧ Below w.heap.size w w' := by
  have hbw := al_below w (.cells #[.slice F.L.Ak f.h.ks.length F.L.ck, .int .i64 f.h.fl, .slice F.L.Ap f.h.ps.length F.L.cp, .slice F.L.Ab f.h.bs.length F.L.cb, .slice F.Ap f.pk.length F.cp, .int .i64 f.day, .int .i64 f.nb, .slice F.Aq f.q.length F.cq] 29)
  have HB := Lib.hid (FBox.new w F f)
  obtain ⟨c0, c1, c2, c3, c4, c5, c6, c7⟩ := (FBox.new w F f).cells
  obtain ⟨W0, hW0⟩ : ∃ W0, w.alloc (.cells #[.slice F.L.Ak f.h.ks.length F.L.ck, .int .i64 f.h.fl, .slice F.L.Ap f.h.ps.length F.L.cp, .slice F.L.Ab f.h.bs.length F.L.cb, .slice F.Ap f.pk.length F.cp, .int .i64 f.day, .int .i64 f.nb, .slice F.Aq f.q.length F.cq] 29) = W0 := ⟨_, rfl⟩
  rw [hW0] at hbw HB c0 c1 c2 c3 c4 c5 c6 c7
  have HBW := Lib.hid hbw
  have HW0 := Lib.hid hW0
  have HF := Lib.hid (hF.below hbw)
  clear hbw hW0 hF
  have H39 := Lib.hid (hugeF_any F f W0 HF.out)
  cases h1 : hugeF f
  · rw [h1] at H39
    have H48 := Lib.hid (fun W hW => rcheckF_any F f (hugeF_fn h1) W hW)
    have hv : readyB9 f = decide (ckF f = 0) := by simp [readyB9, h1]
    rw [hv]
    generalize ckF f = n at H48
    clear hv h1
    obtain ⟨L, Ap, cp, Aq, cq⟩ := F
    go_enter Try.func16, Try.ntmps16
    go_upto_region 1 with (fail)
    have e := HW0.out
    rw [e]
    clear e
    go_wp2_with (first
      | (go_at_call 39; refine H39.out.mono ?_; rintro e w1 ⟨rfl, hb1⟩; have B1 := Lib.hid hb1; obtain ⟨c0, c1, c2, c3, c4, c5, c6, c7⟩ := (HB.out.of (hb1.block _ HB.out.lt)).cells; clear hb1)
      | (go_at_call 48; refine (H48.out _ (HF.out.below B1.out)).mono ?_; rintro e w2 ⟨rfl, hb2⟩; have B2 := Lib.hid (hb0to B1.out hb2); clear hb2))
    go_ret
    exact ⟨congrArg (fun b => Ending.returned (.bool b)) (by first | rfl | (by_cases hz : n = 0 <;> simp [hz])), hb0to HBW.out B2.out⟩
  · rw [h1] at H39
    have hv : readyB9 f = false := by simp [readyB9, h1]
    rw [hv]
    clear hv h1
    obtain ⟨L, Ap, cp, Aq, cq⟩ := F
    go_enter Try.func16, Try.ntmps16
    go_upto_region 1 with (fail)
    have e := HW0.out
    rw [e]
    clear e
    go_wp2_with (go_at_call 39; refine H39.out.mono ?_; rintro e w1 ⟨rfl, hb1⟩; have B1 := Lib.hid hb1; clear hb1)
    go_ret
    exact ⟨rfl, hb0to HBW.out B1.out⟩

end Go.Proofs.Ytmconopnplgcfaa
