import Derived.Test.YtmconopnplgcfaaGC
namespace Go.Proofs.Ytmconopnplgcfaa
open Go.RowKit

/-! What is plain of SalesNeed, SalesLater, SalesMore, SalesWithout. -/
theorem isBid_yes {f : Fair} {i : Nat} (hi : i < f.q.length) : isBid f (i : Int) = true := inR_true.2 (by omega)
theorem wonN_in (a b : Int) : 1 ≤ wonN a b ∧ wonN a b ≤ 3 := by
  unfold wonN
  split
  · omega
  · split <;> omega
theorem most_ret {f : Fair} (hv : validF f = true) : mostRet f = (mW f, 0) := numRF_ok (ask_valid hv)
theorem won_ret {f : Fair} (hv : validF f = true) {i : Nat} (hi : i < f.q.length) : wonRet f (i : Int) = (wonN (withV f.q (rdF f) i) (outV f.q (rdF f) i), 0) := by
  unfold wonRet
  rw [isBid_yes hi, Int.toNat_natCast]
  exact numRF_ok (ask_valid hv)
/-- Need, 100 for none. -/
def needQ (f : Fair) (i : Nat) : Int := min (needV f i) 100
theorem need_ret {f : Fair} (hv : validF f = true) {i : Nat} (hi : i < f.q.length) : needRet f (i : Int) = if needQ f i = 100 then (0, 3) else (needQ f i, 0) := by
  unfold needRet needQ
  rw [isBid_yes hi, Int.toNat_natCast, if_pos (ask_valid hv)]
  by_cases h : 99 < needV f i
  · rw [if_pos h, if_pos (by omega)]
  · rw [if_neg h, if_neg (by omega)]
    exact congrArg (fun x => (x, (0 : Int))) (by omega)
theorem needQ_bd (f : Fair) (i : Nat) : 0 ≤ needQ f i ∧ needQ f i ≤ 100 := by
  unfold needQ needV needN
  split <;> omega
theorem with_way {q : List Bid} {rd : List Int} {i : Nat} {w : Int} (hq : ∀ b ∈ q, 0 ≤ b.pay) (h : MostIs q rd (fun l => i ∈ l) w) : w = -1 ∨ 0 ≤ w := by
  rcases h.at_ with ⟨e, _⟩ | ⟨l, _, _, e⟩
  · exact .inl e
  · exact .inr (by rw [← e]; exact brings_nonneg hq l)
theorem offer_two {f : Fair} (hv : validF f = true) {i : Nat} {x : Bid} (hx : f.q[i]? = some x) {p : Int} (hp : 0 ≤ p ∧ p ≤ 99) :
    withV (offerF f i p).q (rdF (offerF f i p)) i = (if withV f.q (rdF f) i = -1 then -1 else withV f.q (rdF f) i - x.pay + p) ∧ outV (offerF f i p).q (rdF (offerF f i p)) i = outV f.q (rdF f) i := by
  have hf := FOK.of hv
  have hg := FOK.of (offer_valid hx hv hp)
  have hi := (List.getElem?_eq_some_iff.1 hx).1
  have hgi : i < (offerF f i p).q.length := by
    show i < (offerQ f.q i p).length
    rw [offer_eq hx, List.length_set]; exact hi
  have h1 := withV_is (rd := rdF f) hf.ql hf.pos' hi
  have h0 := outV_is (rd := rdF f) hf.ql hf.pos' hi
  have k1 := withV_is (rd := rdF f) hg.ql hg.pos' hgi
  have k0 := outV_is (rd := rdF f) hg.ql hg.pos' hgi
  refine ⟨?_, k0.unique (offer_without hx p h0)⟩
  rcases offer_with hx p h1 with h | ⟨l, _, _, e⟩
  · exact k1.unique h
  · have := brings_nonneg hf.pos' l
    omega
theorem need_won {f : Fair} (hv : validF f = true) {i : Nat} {x : Bid} (hx : f.q[i]? = some x) {p : Int} (hp : 0 ≤ p ∧ p ≤ 99) :
    wonN (withV (offerF f i p).q (rdF (offerF f i p)) i) (outV (offerF f i p).q (rdF (offerF f i p)) i) = 2 ↔ p < needQ f i := by
  have hf := FOK.of hv
  have hi := (List.getElem?_eq_some_iff.1 hx).1
  obtain ⟨e1, e0⟩ := offer_two hv hx hp
  rw [e1, e0, need_can (with_way hf.pos' (withV_is hf.ql hf.pos' hi)) (without_nonneg (outV_is hf.ql hf.pos' hi)) hp]
  unfold needQ needV
  rw [payAt_some hx]
  omega
theorem need_own {f : Fair} (hv : validF f = true) {i : Nat} {x : Bid} (hx : f.q[i]? = some x) :
    wonN (withV f.q (rdF f) i) (outV f.q (rdF f) i) = 2 ↔ x.pay < needQ f i := by
  have hf := FOK.of hv
  have hi := (List.getElem?_eq_some_iff.1 hx).1
  have hp := hf.pay x (List.mem_of_getElem? hx)
  have h := need_can (p := x.pay) (with_way hf.pos' (withV_is (rd := rdF f) hf.ql hf.pos' hi)) (without_nonneg (outV_is (rd := rdF f) hf.ql hf.pos' hi)) hp
  have e : (if withV f.q (rdF f) i = -1 then -1 else withV f.q (rdF f) i - x.pay + x.pay) = withV f.q (rdF f) i := by split <;> omega
  rw [e] at h
  rw [h]
  unfold needQ needV
  rw [payAt_some hx]
  omega
theorem more_won {f : Fair} (hv : validF f = true) {i : Nat} {x : Bid} (hx : f.q[i]? = some x) (hp : x.pay + 1 ≤ 99) :
    (wonN (withV f.q (rdF f) i) (outV f.q (rdF f) i) = 2 ∧ mW (offerF f i (x.pay + 1)) = mW f) ∨ (wonN (withV f.q (rdF f) i) (outV f.q (rdF f) i) ≠ 2 ∧ mW (offerF f i (x.pay + 1)) = mW f + 1) := by
  have hf := FOK.of hv
  have hi := (List.getElem?_eq_some_iff.1 hx).1
  have hxp := hf.pay x (List.mem_of_getElem? hx)
  have hg := FOK.of (offer_valid hx hv (p := x.pay + 1) (by omega))
  have hgi : i < (offerF f i (x.pay + 1)).q.length := by
    show i < (offerQ f.q i (x.pay + 1)).length
    rw [offer_eq hx, List.length_set]; exact hi
  obtain ⟨e1, e0⟩ := offer_two hv hx (p := x.pay + 1) (by omega)
  have h1 := withV_is (rd := rdF f) hf.ql hf.pos' hi
  have h0 := outV_is (rd := rdF f) hf.ql hf.pos' hi
  have k1 := withV_is (rd := rdF (offerF f i (x.pay + 1))) hg.ql hg.pos' hgi
  have k0 := outV_is (rd := rdF (offerF f i (x.pay + 1))) hg.ql hg.pos' hgi
  have m1 : mW f = max (withV f.q (rdF f) i) (outV f.q (rdF f) i) := (mostV_is hf.ql hf.pos').unique (most_two h1 h0 (without_nonneg h0))
  have m2 : mW (offerF f i (x.pay + 1)) = max (withV (offerF f i (x.pay + 1)).q (rdF (offerF f i (x.pay + 1))) i) (outV (offerF f i (x.pay + 1)).q (rdF (offerF f i (x.pay + 1))) i) := (mostV_is hg.ql hg.pos').unique (most_two k1 k0 (without_nonneg k0))
  have e2 : (if withV f.q (rdF f) i = -1 then -1 else withV f.q (rdF f) i - x.pay + (x.pay + 1)) = (if withV f.q (rdF f) i = -1 then -1 else withV f.q (rdF f) i + 1) := by split <;> omega
  rw [m1, m2, e1, e0, e2]
  exact penny_more (with_way hf.pos' h1) (without_nonneg h0)
/-! Later. -/
theorem readyL_sub {h : House} {pk : List Int} {d e : Int} (hde : d ≤ e) : readyL h pk d = (readyL h pk e).filter fun b => dOK h pk d b := by
  unfold readyL
  rw [List.filter_filter]
  refine List.filter_congr fun b _ => ?_
  cases hd : dOK h pk d b
  · simp
  · have : dOK h pk e b = true := by
      unfold dOK at hd ⊢
      rw [decide_eq_true_eq] at hd ⊢
      omega
    simp [this]
theorem readyL_len {h : House} {pk : List Int} {d e : Int} (hde : d ≤ e) : (readyL h pk d).length ≤ (readyL h pk e).length := by
  rw [readyL_sub hde]; exact List.length_filter_le _ _
theorem readyL_all {h : House} {pk : List Int} {d : Int} : (readyL h pk d).length ≤ h.bs.length := by
  unfold readyL
  refine Nat.le_trans (List.length_filter_le _ _) ?_
  simp
theorem readyL_mem {h : House} {pk : List Int} {d e : Int} (hde : d ≤ e) : ∀ x ∈ readyL h pk d, x ∈ readyL h pk e := fun x hx => by
  rw [readyL_sub hde] at hx
  exact (List.mem_filter.1 hx).1
theorem dayV_mono {f : Fair} (hf : FOK f) {d e : Int} (hde : d ≤ e) : dayV f d ≤ dayV f e :=
  most_later (readyL_mem hde) (mostV_is hf.ql hf.pos') (mostV_is hf.ql hf.pos')
theorem when_is {f : Fair} (hf : FOK f) : WhenIs (fun d : Nat => dayV f d) (whenV f) :=
  whenTo_all (fun d => (dayV_bd hf d).1) (fun d e h _ => dayV_mono hf (by omega))
theorem later_plain {f : Fair} (hf : FOK f) {one other : Int} (h1 : 0 ≤ one ∧ one ≤ 20) (h2 : 0 ≤ other ∧ other ≤ 20) : whenV f ≤ 20 ∧ dayV f other ≤ dayV f (whenV f) ∧ (((whenV f : Nat) : Int) ≤ one ∨ dayV f one < dayV f (whenV f)) := by
  have h := when_is hf
  refine ⟨h.le, ?_, ?_⟩
  · have := h.at_
    have := dayV_mono hf (d := other) (e := ((20 : Nat) : Int)) (by omega)
    omega
  · by_cases hl : one < whenV f
    · have h3 := h.first one.toNat (by omega)
      have e : ((one.toNat : Nat) : Int) = one := by omega
      rw [e] at h3
      have := h.at_
      exact .inr (by omega)
    · exact .inl (by omega)
theorem later_less {f : Fair} (hf : FOK f) {one other : Int} (h1 : 0 ≤ one ∧ one ≤ 20) (h2 : 0 ≤ other ∧ other ≤ 20) (hle : one ≤ other) : ((whenV f : Nat) : Int) ≤ one ∨ dayV f one < dayV f (whenV f) := (later_plain hf h1 h2).2.2
theorem day_valid {f : Fair} (hv : validF f = true) {d : Int} (hd : 0 ≤ d ∧ d ≤ 20) : validF (dayF f d) = true := by
  unfold validF at hv ⊢
  simp only [Bool.and_eq_true] at hv ⊢
  obtain ⟨h1, h2, h3⟩ := hv
  refine ⟨h1, ?_, h3⟩
  unfold numsOK at h2 ⊢
  simp only [Bool.and_eq_true, inR_true] at h2 ⊢
  exact ⟨hd, h2.2⟩
theorem day_fn {f : Fair} (hn : FN f) (d : Int) : FN (dayF f d) := ⟨hn.h, hn.p, hn.q, hn.b⟩
/-! Without. -/
def withoutF (f : Fair) (v : Int) : Fair := { f with q := keptQ v f.q }
theorem without_valid {f : Fair} (hv : validF f = true) (v : Int) : validF (withoutF f v) = true := by
  unfold validF at hv ⊢
  simp only [Bool.and_eq_true] at hv ⊢
  obtain ⟨h1, h2, h3⟩ := hv
  refine ⟨h1, ?_, ?_⟩
  · unfold numsOK at h2 ⊢
    simp only [Bool.and_eq_true, inR_true, decide_eq_true_eq] at h2 ⊢
    exact ⟨h2.1, h2.2.1, Nat.le_trans (List.length_filter_le _ _) h2.2.2⟩
  · rw [List.all_eq_true] at h3 ⊢
    intro x hx
    exact h3 x (List.mem_filter.1 hx).1
theorem without_fn {f : Fair} (hn : FN f) (v : Int) : FN (withoutF f v) := ⟨hn.h, hn.p, Nat.le_trans (List.length_filter_le _ _) hn.q, fun x hx => hn.b x (List.mem_filter.1 hx).1⟩
theorem without_most {f : Fair} (hv : validF f = true) (v : Int) : mW (withoutF f v) = noneV f.q (rdF f) v := by
  have hf := FOK.of hv
  have hg := FOK.of (without_valid hv v)
  exact (without_is (mostV_is (rd := rdF f) hg.ql hg.pos')).unique (noneV_is hf.ql hf.pos')
theorem without_plain {f : Fair} (hv : validF f = true) (v : Int) : 0 ≤ mW (withoutF f v) ∧ mW (withoutF f v) ≤ mW f ∧ payV f.q (rdF f) v = mW (withoutF f v) - (mW f - ownL f.q v (wL f)) ∧ mW f - highTo f.q v f.q.length ≤ mW (withoutF f v) := by
  have hf := FOK.of hv
  have hm := noneV_is (rd := rdF f) (v := v) hf.ql hf.pos'
  have hw := wL_win hf
  have e := without_most hv v
  have eM : mW f = bringsL f.q (wL f) := mostV_win hf.ql hf.pos'
  have hp := payV_eq (rd := rdF f) hf.ql hf.pos' v
  have ho := own_others f.q v (wL f)
  have h3 := pays_bd hw hm
  have h4 := without_high hw hm
  have h5 := (mW_bd (FOK.of (without_valid hv v))).1
  have h6 : othersL f.q v (winL f.q (rdF f)) = othersL f.q v (wL f) := rfl
  rw [e] at h5 ⊢
  refine ⟨h5, by omega, by omega, by omega⟩

end Go.Proofs.Ytmconopnplgcfaa
