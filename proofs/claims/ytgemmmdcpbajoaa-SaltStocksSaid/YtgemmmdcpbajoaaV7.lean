import Derived.Test.YtgemmmdcpbajoaaV4
namespace Go.Proofs.Ytgemmmdcpbajoaa
open Go.RowKit

theorem pack_need {h : House} {lo : Int} {p : List Int} (hp : p ∈ fitting h lo) {b : Nat} (hb : b < h.bs.length) : needC h (inOf p b) ≤ h.bs.getD b 0 := fitsR_true.1 (mem_fitting hp).2.2 b hb
theorem bs_le {h : House} (hv : HOK h) {b : Nat} (hb : b < h.bs.length) : 0 ≤ h.bs.getD b 0 ∧ h.bs.getD b 0 ≤ 99 := by
  have e : h.bs[b]? = some h.bs[b] := List.getElem?_eq_getElem hb
  have := hv.b b _ e
  rw [List.getD_eq_getElem?_getD, e]
  exact this
theorem saltC_nn {h : House} (hv : HOK h) {c : Cask} (hc : c.ok) : 0 ≤ saltC h.fl c := by
  unfold saltC
  have := hv.f0
  have := Int.mul_nonneg hc.p0 hc.s0
  split
  · exact Int.le_refl _
  · omega
theorem packF_bd2 {h : House} (hv : HOK h) {lo : Int} {p : List Int} (hp : p ∈ fitting h lo) : 0 ≤ packF h p ∧ packF h p ≤ 99 * h.bs.length := by
  obtain ⟨l1, l2, l3⟩ := mem_fitting hp
  have : ∀ k, k ≤ h.bs.length → 0 ≤ sumB (saltC h.fl) h p k ∧ sumB (saltC h.fl) h p k ≤ 99 * k := fun k => by
    induction k with
    | zero => intro _; simp [sumB]
    | succ k ih =>
      intro hk
      have h1 := ih (by omega)
      have hok := inOf_ok hv (by omega : p.length ≤ h.ps.length) (k : Int)
      have h2 := saltC_nn hv hok
      have h3 := pack_need hp (b := k) (by omega)
      have h4 := bs_le hv (b := k) (by omega)
      have h5 := hok.p0
      unfold needC at h3
      simp only [sumB]
      push_cast
      omega
  exact this _ (Nat.le_refl _)
/-- Least and Fewest of a valid house. -/
theorem least_yes {h : House} (hv : validH h = true) (hp : packsL h ≠ []) : ∃ p m, bestOf (packF h) (packsL h) = some (p, m) ∧ leastS h = (m, 0) ∧ p ∈ packsL h ∧ m = packF h p ∧ ∀ q ∈ packsL h, m ≤ packF h q := by
  cases hb : bestOf (packF h) (packsL h) with
  | none => exact absurd (bestOf_none.1 hb) hp
  | some q =>
    obtain ⟨p, m⟩ := q
    obtain ⟨e, h1, h2, _⟩ := bestOf_some hb
    refine ⟨p, m, rfl, ?_, h1, e, h2⟩
    unfold leastS
    rw [if_neg (by simp [hv]), hb]
theorem least_no {h : House} (hv : validH h = true) (hp : packsL h = []) : leastS h = (0, 3) := by
  unfold leastS
  rw [if_neg (by simp [hv]), bestOf_none.2 hp]
theorem few_yes {h : House} (hv : validH h = true) (hp : packsL h ≠ []) : ∃ p m, bestOf (usedF h) (packsL h) = some (p, m) ∧ fewS h = (m, 0) ∧ p ∈ packsL h ∧ m = usedF h p ∧ ∀ q ∈ packsL h, m ≤ usedF h q := by
  cases hb : bestOf (usedF h) (packsL h) with
  | none => exact absurd (bestOf_none.1 hb) hp
  | some q =>
    obtain ⟨p, m⟩ := q
    obtain ⟨e, h1, h2, _⟩ := bestOf_some hb
    refine ⟨p, m, rfl, ?_, h1, e, h2⟩
    unfold fewS
    rw [pks_err]
    simp only [hv, hp, if_false, Bool.true_eq_false, ne_eq, not_true_eq_false]
    rw [foldMin_best, hb]
    have := usedF_bd h p
    simp only [orMin]
    rw [show min (h.bs.length : Int) m = m by omega]
theorem few_no {h : House} (hv : validH h = true) (hp : packsL h = []) : fewS h = (0, 3) := by
  unfold fewS
  rw [pks_err]
  simp [hv, hp]
def isB (h : House) : Bool := !(packsL h).isEmpty
theorem both_nums {h : House} (hv : validH h = true) : (isB h = true ∧ (leastS h).2 = 0 ∧ (fewS h).2 = 0 ∨ isB h = false ∧ (leastS h).2 = 3 ∧ (fewS h).2 = 3) ∧ 0 ≤ (leastS h).1 ∧ (leastS h).1 ≤ 400 ∧ 0 ≤ (fewS h).1 ∧ (fewS h).1 ≤ h.bs.length := by
  have hV := HOK.ofValid hv
  by_cases hp : packsL h = []
  · rw [least_no hv hp, few_no hv hp]
    exact ⟨.inr ⟨by simp [isB, hp], rfl, rfl⟩, by simp, by simp, by simp, by simp⟩
  · obtain ⟨p, m, _, e1, h1, h2, _⟩ := least_yes hv hp
    obtain ⟨q, k, _, e2, h3, h4, _⟩ := few_yes hv hp
    have b1 := packF_bd2 hV (by rw [← packs_eq hV]; exact h1)
    have b2 := usedF_bd h q
    have := hV.bl
    rw [e1, e2]
    refine ⟨.inl ⟨by simp [isB, hp], rfl, rfl⟩, ?_, ?_, ?_, ?_⟩
    all_goals (simp only; omega)
set_option maxRecDepth 100000 in
set_option maxHeartbeats 4000000 in
theorem both_any (L : HL) (h : House) (hv : validH h = true) (w : World) (hH : HouseAt w w.heap.size L h) :
    Calls Try.prog 44 #[L.enc h] w fun e w' => e = .returned (.tuple #[.int .i64 (leastS h).1, .int .i64 (fewS h).1, .bool (isB h), .bool false]) ∧ Below w.heap.size w w' := by
  have hV := HOK.ofValid hv
  have HN := Lib.hid (show h.ks.length ≤ 1000 ∧ h.ps.length ≤ 1000 ∧ h.bs.length ≤ 1000 from ⟨by have := hV.kl; omega, by have := hV.pl; omega, by have := hV.bl; omega⟩)
  have hbw := (Below.refl w.heap.size w).alloc (Nat.le_refl _) (.cells #[.slice L.Ak h.ks.length L.ck, .int .i64 h.fl, .slice L.Ap h.ps.length L.cp, .slice L.Ab h.bs.length L.cb] 26)
  have HB := Lib.hid (HBox.new w L h)
  have hc0 := (HBox.new w L h).cells
  obtain ⟨W0, hW0⟩ : ∃ W0, w.alloc (.cells #[.slice L.Ak h.ks.length L.ck, .int .i64 h.fl, .slice L.Ap h.ps.length L.cp, .slice L.Ab h.bs.length L.cb] 26) = W0 := ⟨_, rfl⟩
  rw [hW0] at hbw HB hc0
  have HBW := Lib.hid hbw
  have HW0 := Lib.hid hW0
  have HH := Lib.hid (hH.below hbw)
  obtain ⟨hc, m0, m1, n0, n1⟩ := both_nums hv
  have HL := Lib.hid (least_any2 L h HN.out W0 (hH.below hbw))
  have HF := Lib.hid (fewest_any2 L h HN.out)
  clear hbw hW0 hH hV hv
  obtain ⟨m, hm⟩ : ∃ m, m = (leastS h).1 := ⟨_, rfl⟩
  obtain ⟨n, hn⟩ : ∃ n, n = (fewS h).1 := ⟨_, rfl⟩
  obtain ⟨e1, he1⟩ : ∃ e, e = (leastS h).2 := ⟨_, rfl⟩
  obtain ⟨e2, he2⟩ : ∃ e, e = (fewS h).2 := ⟨_, rfl⟩
  obtain ⟨is, his⟩ : ∃ b, b = isB h := ⟨_, rfl⟩
  rw [← hm, ← he1] at HL
  rw [← hn, ← he2] at HF
  rw [← hm, ← hn, ← his]
  rw [← hm] at m0 m1
  rw [← hn] at n0 n1
  rw [← he1, ← he2, ← his] at hc
  clear hm hn he1 he2 his
  have d1 : decide (m < 0) = false := decide_eq_false (by omega)
  have d2 : decide (1000 < m) = false := decide_eq_false (by omega)
  have d3 : decide (n < 0) = false := decide_eq_false (by omega)
  have d4 : decide ((h.bs.length : Int) < n) = false := decide_eq_false (by omega)
  rcases hc with ⟨rfl, rfl, rfl⟩ | ⟨rfl, rfl, rfl⟩
  · obtain ⟨Ak, ck, Ap, cp, Ab, cb⟩ := L
    go_enter Try.func44, Try.ntmps44
    go_upto_region 1 with (fail)
    have e := HW0.out
    rw [e]
    clear e
    go_wp2_with (first
      | (go_at_call 36; refine (HL.out).mono ?_; rintro e w1 ⟨rfl, hb1⟩; have HB1 := Lib.hid hb1; have hc1 := (HB.out.of (hb1.block _ HB.out.lt)).cells; clear hb1)
      | (go_at_call 40; refine (HF.out w1 (HH.out.below HB1.out)).mono ?_; rintro e w2 ⟨rfl, hb2⟩; have HB2 := Lib.hid (hb0to HB1.out hb2); have hc2 := (HB.out.of (HB2.out.block _ HB.out.lt)).cells; clear hb2))
    refine bodyPost_ret (v := .tuple #[.int .i64 m, .int .i64 n, .bool true, .bool false]) (by simp [results, Try.results44, go_sem]) rfl ⟨rfl, hb0to HBW.out HB2.out⟩
  · obtain ⟨Ak, ck, Ap, cp, Ab, cb⟩ := L
    go_enter Try.func44, Try.ntmps44
    go_upto_region 1 with (fail)
    have e := HW0.out
    rw [e]
    clear e
    go_wp2_with (first
      | (go_at_call 36; refine (HL.out).mono ?_; rintro e w1 ⟨rfl, hb1⟩; have HB1 := Lib.hid hb1; have hc1 := (HB.out.of (hb1.block _ HB.out.lt)).cells; clear hb1)
      | (go_at_call 40; refine (HF.out w1 (HH.out.below HB1.out)).mono ?_; rintro e w2 ⟨rfl, hb2⟩; have HB2 := Lib.hid (hb0to HB1.out hb2); have hc2 := (HB.out.of (HB2.out.block _ HB.out.lt)).cells; clear hb2))
    refine bodyPost_ret (v := .tuple #[.int .i64 m, .int .i64 n, .bool false, .bool false]) (by simp [results, Try.results44, go_sem]) rfl ⟨rfl, hb0to HBW.out HB2.out⟩
end Go.Proofs.Ytgemmmdcpbajoaa
