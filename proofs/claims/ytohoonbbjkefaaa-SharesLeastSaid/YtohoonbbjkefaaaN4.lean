import Derived.Test.YtohoonbbjkefaaaF5
namespace Go.Proofs.Ytohoonbbjkefaaa

/-! The plain law of how near it is: no Fixed. -/
theorem lFix_free : ∀ (l : List Node), (∀ x ∈ l, x.f = 0) → ∀ r, 0 ≤ r → (lFix r l).2 = r ∧ ∀ i, at0 (lFix r l).1 i = 0
  | [], _, r, _ => ⟨rfl, fun i => by simp [lFix, at0]⟩
  | x :: xs, h, r, hr => by
    have hx := h x (by simp)
    have hg : gmin x.f r = 0 := by
      have h1 := gmin_bd (a := x.f) (b := r) (by omega) hr
      omega
    obtain ⟨i1, i2⟩ := lFix_free xs (fun y hy => h y (by simp [hy])) (r - gmin x.f r) (by omega)
    refine ⟨by simp only [lFix]; omega, fun i => ?_⟩
    simp only [lFix]
    cases i with
    | zero => simpa [at0] using hg
    | succ i => have := i2 i; simpa [at0] using this
theorem near_zero {l : List Node} (h : ∀ x ∈ l, x.f = 0) {P : Int} (hP : 0 ≤ P) (hs : lSum l = 0) : (splitL P l).2 = P ∧ ∀ i, at0 (splitL P l).1 i = 0 := by
  unfold splitL
  rw [if_neg (by omega)]
  exact lFix_free l h P hP
/-- What the i-th one gets. -/
def nearMore (l : List Node) (P : Int) (i : Nat) : Bool := decide (lPos (l.take i) ≤ lOdd P (lSum l) l)
theorem near_at {l : List Node} (h : ∀ x ∈ l, x.f = 0) {P : Int} (hP : 0 ≤ P) (hs : 0 < lSum l) {i : Nat} (hi : i < l.length) :
    (splitL P l).2 = 0 ∧ at0 (splitL P l).1 i = P * (nodeAt l i).w / lSum l + (if 0 < (nodeAt l i).w ∧ lPos (l.take i) < lOdd P (lSum l) l then 1 else 0) := by
  obtain ⟨f1, f2⟩ := lFix_free l h P hP
  unfold splitL
  rw [if_pos hs]
  refine ⟨rfl, ?_⟩
  have hx : l[i]? = some (nodeAt l i) := GoodC.at_ hi
  have hb : ((lFix P l).1.zip l)[i]? = some ((lFix P l).1[i]'(by rw [lFix_len]; exact hi), nodeAt l i) := by
    rw [List.getElem?_zip_eq_some]
    exact ⟨List.getElem?_eq_getElem _, hx⟩
  have h0 := f2 i
  have h0' : (lFix P l).1[i]'(by rw [lFix_len]; exact hi) = 0 := by
    unfold at0 at h0
    rw [List.getElem?_eq_getElem (by rw [lFix_len]; exact hi)] at h0
    exact h0
  have ht : (((lFix P l).1.zip l).take i).map (·.2) = l.take i := by
    rw [List.map_take, List.map_snd_zip (by rw [lFix_len]; exact Nat.le_refl _)]
  have := lFin_at (lFix P l).2 (lSum l) _ (lOdd (lFix P l).2 (lSum l) l) i _ hb
  unfold at0
  rw [this, ht, f1, h0']
  simp only
  omega
/-- One round of the law's test: whether it is part or part + 1; whether there are more still. -/
theorem near_step {l : List Node} (hw : ∀ x ∈ l, 0 ≤ x.w) (h : ∀ x ∈ l, x.f = 0) {P : Int} (hP : 0 ≤ P) (hs : 0 < lSum l) {i : Nat} (hi : i < l.length) {v part w : Int} (hv : at0 (splitL P l).1 i = v) (hp : P * (nodeAt l i).w / lSum l = part) (hww : (nodeAt l i).w = w) :
    (v = part + 1 ∧ 0 < w ∧ nearMore l P i = true ∧ nearMore l P (i + 1) = true) ∨ (v = part ∧ 0 < w ∧ nearMore l P (i + 1) = false) ∨ (v = part ∧ w = 0 ∧ nearMore l P (i + 1) = nearMore l P i) := by
  have h0 := (near_at h hP hs hi).2
  have hl := lPos_take hi
  have hwi := hw _ (List.mem_of_getElem? (GoodC.at_ hi))
  rw [hv, hp, hww] at h0
  rw [hww] at hl hwi
  unfold nearMore
  by_cases c : 0 < w ∧ lPos (l.take i) < lOdd P (lSum l) l
  · rw [if_pos c] at h0
    rw [if_pos c.1] at hl
    exact .inl ⟨h0, c.1, decide_eq_true (by omega), decide_eq_true (by omega)⟩
  · rw [if_neg c] at h0
    by_cases c1 : 0 < w
    · rw [if_pos c1] at hl
      have : ¬ lPos (l.take i) < lOdd P (lSum l) l := fun hh => c ⟨c1, hh⟩
      exact .inr (.inl ⟨by omega, c1, decide_eq_false (by omega)⟩)
    · rw [if_neg c1] at hl
      refine .inr (.inr ⟨by omega, by omega, ?_⟩)
      rw [show lPos (l.take (i + 1)) = lPos (l.take i) by omega]
theorem near_start {l : List Node} (hw : ∀ x ∈ l, 0 ≤ x.w) {P : Int} (hs : 0 < lSum l) : nearMore l P 0 = true := by
  have := (lOdd_bd P l hw hs).1
  unfold nearMore
  simp only [List.take_zero, lPos, List.map_nil, List.sum_nil]
  exact decide_eq_true this
end Go.Proofs.Ytohoonbbjkefaaa
