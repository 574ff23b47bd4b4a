import Derived.Test.YtgemmmdcpbajoaaV8
namespace Go.Proofs.Ytgemmmdcpbajoaa
open Go.RowKit

/-! What is together: some parts in one barrel, or in two. -/
theorem riseB_all {l : List Int} {n : Int} (h : riseB l n = true) : l.Pairwise (· < ·) := by
  rw [List.pairwise_iff_getElem]
  have key : ∀ (d i : Nat) (hj : i + d + 1 < l.length), l.getD i 0 < l.getD (i + d + 1) 0 := fun d => by
    induction d with
    | zero => intro i hj; exact riseB_lt h hj
    | succ d ih => intro i hj; exact Int.lt_trans (ih i (by omega)) (riseB_lt h hj)
  intro i j hi hj hij
  have := key (j - i - 1) i (by omega)
  rw [show i + (j - i - 1) + 1 = j by omega] at this
  simpa [List.getD, List.getElem?_eq_getElem hi, List.getElem?_eq_getElem hj] using this
theorem riseB_of {l : List Int} {n : Int} (h0 : ∀ i ∈ l, 0 ≤ i ∧ i < n) (h1 : l.Pairwise (· < ·)) : riseB l n = true := by
  refine riseB_yes fun k hk => ?_
  have e : l.getD k 0 = l[k] := by simp [List.getD, List.getElem?_eq_getElem hk]
  have h2 := h0 l[k] (List.getElem_mem hk)
  unfold riseOK
  rw [Bool.and_eq_true]
  refine ⟨inR_true.2 (by rw [e]; omega), ?_⟩
  by_cases hz : k = 0
  · subst hz; rfl
  · rw [List.pairwise_iff_getElem] at h1
    have := h1 (k - 1) k (by omega) hk (by omega)
    simp only [Bool.or_eq_true, beq_iff_eq, hz, false_or]
    have e2 : l.getD (k - 1) 0 = l[k - 1] := by simp [List.getD, List.getElem?_eq_getElem (show k - 1 < l.length by omega)]
    rw [e, e2]; simpa using this
theorem riseB_sub {l l' : List Int} {n : Int} (hs : l.Sublist l') (h : riseB l' n = true) : riseB l n = true :=
  riseB_of (fun i hi => riseB_in h i (hs.subset hi)) ((riseB_all h).sublist hs)
def oneL (f : Int → Bool) (l : List Int) : List Int := l.filter fun x => !f x
def twoL (f : Int → Bool) (l : List Int) : List Int := l.filter f
def saltL (h : House) (l : List Int) : Int := saltC h.fl (caskIn h l)
theorem salt_bd6 {h : House} (hv : HOK h) {l : List Int} (hl : l.length ≤ 6) (hp : PartsOK h l) : 0 ≤ saltL h l ∧ saltL h l ≤ 1000 := by
  obtain ⟨n0, n1, p0, p1, s0, s1, d0, d1⟩ := caskIn_upto hv l hp
  have h1 : (caskIn h l).p * (caskIn h l).s ≤ 240 * 9 := Int.mul_le_mul (by omega) s1 s0 (by omega)
  have h0 : 0 ≤ (caskIn h l).p * (caskIn h l).s := Int.mul_nonneg p0 s0
  have := hv.f0
  have := hv.f1
  unfold saltL saltC
  split <;> omega
theorem split_p (h : House) (f : Int → Bool) : ∀ l : List Int, (caskIn h l).p = (caskIn h (oneL f l)).p + (caskIn h (twoL f l)).p := fun l => by
  rw [cask_p, cask_p, cask_p]
  induction l with
  | nil => rfl
  | cons x l ih =>
    unfold oneL twoL at ih ⊢
    by_cases e : f x = true
    · simp [e, ih]; omega
    · simp [e, ih]; omega
theorem strong_same {h : House} (hv : HOK h) {l : List Int} (hp : PartsOK h l) {K : Int} (hk : ∀ i ∈ l, strongAt h i = K) (hne : l ≠ []) : (caskIn h l).s = K := by
  obtain ⟨x, hx⟩ := List.exists_mem_of_ne_nil _ hne
  have h1 := ((cask_s_le h l (caskIn h l).s).1 (Int.le_refl _)).2 x hx
  have h2 := (cask_s_le h l K).2 ⟨by
    obtain ⟨kk, _, _, _, _, k0, _⟩ := hv.part (k := x.toNat) (by have := hp x hx; omega)
    have := hk x hx
    unfold strongAt at this
    omega, fun i hi => by rw [hk i hi]; exact Int.le_refl _⟩
  have := hk x hx
  omega
theorem together_plain {h : House} (hv : HOK h) {l : List Int} (hr : riseB l h.ps.length = true) (f : Int → Bool) :
    riseB (oneL f l) h.ps.length = true ∧ riseB (twoL f l) h.ps.length = true ∧ 0 ≤ saltL h (oneL f l) ∧ 0 ≤ saltL h (twoL f l) ∧ saltL h (oneL f l) ≤ 1000 ∧ saltL h (twoL f l) ≤ 1000 ∧ saltL h l ≤ 1000 ∧ saltL h (oneL f l) ≤ saltL h l ∧ saltL h (twoL f l) ≤ saltL h l ∧
    ((∀ i ∈ l, (partOf h i.toNat).1 = (partOf h (l.getD 0 0).toNat).1) → saltL h l ≤ saltL h (oneL f l) + saltL h (twoL f l)) := by
  have s1 : (oneL f l).Sublist l := List.filter_sublist
  have s2 : (twoL f l).Sublist l := List.filter_sublist
  have hp : PartsOK h l := riseB_in hr
  have hl := riseB_len hr
  have hl6 : l.length ≤ 6 := by have := hv.pl; omega
  have b1 := salt_bd6 hv (by have := s1.length_le; omega) (hp.sub s1)
  have b2 := salt_bd6 hv (by have := s2.length_le; omega) (hp.sub s2)
  have b0 := salt_bd6 hv hl6 hp
  refine ⟨riseB_sub s1 hr, riseB_sub s2 hr, b1.1, b2.1, b1.2, b2.2, b0.2, salt_le_of_sublist hv s1 hp, salt_le_of_sublist hv s2 hp, fun hk => ?_⟩
  have hK : ∀ i ∈ l, strongAt h i = (kindOf h (partOf h (l.getD 0 0).toNat)).1 := fun i hi => by
    unfold strongAt kindOf
    rw [hk i hi]
  have hp0 := split_p h f l
  have u0 := caskIn_upto hv l hp
  have u1 := caskIn_upto hv _ (hp.sub s1)
  have u2 := caskIn_upto hv _ (hp.sub s2)
  have n1 := cask_n h (oneL f l)
  have n2 := cask_n h (twoL f l)
  have n0 := cask_n h l
  by_cases e0 : l = []
  · subst e0; exact Int.le_trans (Int.le_refl 0) (by omega)
  have S0 := strong_same hv hp hK e0
  by_cases e1 : oneL f l = []
  · have e2 : twoL f l = l := by
      unfold twoL; rw [List.filter_eq_self]
      intro a ha
      have : ¬ a ∈ oneL f l := by rw [e1]; simp
      unfold oneL at this
      simp only [List.mem_filter, ha, true_and] at this
      simpa using this
    rw [e2]; omega
  by_cases e2 : twoL f l = []
  · have e3 : oneL f l = l := by
      unfold oneL; rw [List.filter_eq_self]
      intro a ha
      have : ¬ a ∈ twoL f l := by rw [e2]; simp
      unfold twoL at this
      simp only [List.mem_filter, ha, true_and] at this
      simpa using this
    rw [e3]; omega
  have S1 := strong_same hv (hp.sub s1) (fun i hi => hK i (s1.subset hi)) e1
  have S2 := strong_same hv (hp.sub s2) (fun i hi => hK i (s2.subset hi)) e2
  have z1 : 0 < (oneL f l).length := List.length_pos_iff.2 e1
  have z2 : 0 < (twoL f l).length := List.length_pos_iff.2 e2
  have z0 : 0 < l.length := List.length_pos_iff.2 e0
  have := hv.f0
  unfold saltL saltC
  rw [if_neg (by omega), if_neg (by omega), if_neg (by omega), S0, S1, S2, hp0, Int.add_mul]
  omega
end Go.Proofs.Ytgemmmdcpbajoaa
