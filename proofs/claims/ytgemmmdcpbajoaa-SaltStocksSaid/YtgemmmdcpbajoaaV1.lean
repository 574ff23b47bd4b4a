import Derived.Test.YtgemmmdcpbajoaaUH
namespace Go.Proofs.Ytgemmmdcpbajoaa
open Go.RowKit

theorem least_eq (h : House) : numRet h true (fun l => sumC (saltC h.fl) l 5) = leastS h := by
  unfold numRet leastS
  by_cases hv : validH h = false
  · rw [if_pos hv, if_pos hv]
  · rw [if_neg hv, if_neg hv, if_neg (by simp)]
    rw [bestOf_congr (packF_eq (HOK.ofValid (by simpa using hv)))]
    cases bestOf (packF h) (packsL h) <;> rfl
def orMin (i : Int) : Option (List Int × Int) → Int
  | none => i
  | some q => min i q.2
def orMax (i : Int) : Option (List Int × Int) → Int
  | none => i
  | some q => max i (-q.2)
theorem foldMin_best (f : List Int → Int) (i : Int) (l : List (List Int)) : foldMin f i l = orMin i (bestOf f l) := by
  refine snoc_ind (P := fun l => foldMin f i l = orMin i (bestOf f l)) rfl (fun l x ih => ?_) l
  have e : foldMin f i (l ++ [x]) = if f x < foldMin f i l then f x else foldMin f i l := by unfold foldMin; rw [List.foldl_append]; rfl
  rw [e, bestOf_snoc, ih]
  cases hb : bestOf f l with
  | none =>
    show (if f x < i then f x else i) = min i (f x)
    by_cases h2 : f x < i
    · rw [if_pos h2]; omega
    · rw [if_neg h2]; omega
  | some q =>
    obtain ⟨p, m⟩ := q
    simp only [stepB]
    by_cases h1 : f x < m
    · rw [if_pos h1]
      show (if f x < min i m then f x else min i m) = min i (f x)
      by_cases h2 : f x < min i m
      · rw [if_pos h2]; omega
      · rw [if_neg h2]; omega
    · rw [if_neg h1]
      show (if f x < min i m then f x else min i m) = min i m
      rw [if_neg (by omega)]
theorem foldMax_best (f g : List Int → Int) (i : Int) (l : List (List Int)) (hg : ∀ p ∈ l, g p = -(f p)) : foldMax f i l = orMax i (bestOf g l) := by
  revert hg
  refine snoc_ind (P := fun l => (∀ p ∈ l, g p = -(f p)) → foldMax f i l = orMax i (bestOf g l)) (fun _ => rfl) (fun l x ih hg => ?_) l
  have e : foldMax f i (l ++ [x]) = if foldMax f i l < f x then f x else foldMax f i l := by unfold foldMax; rw [List.foldl_append]; rfl
  have hx := hg x (by simp)
  rw [e, bestOf_snoc, ih fun p hp => hg p (by simp [hp])]
  cases hb : bestOf g l with
  | none =>
    show (if i < f x then f x else i) = max i (-(g x))
    by_cases h2 : i < f x
    · rw [if_pos h2]; omega
    · rw [if_neg h2]; omega
  | some q =>
    obtain ⟨p, m⟩ := q
    simp only [stepB]
    by_cases h1 : g x < m
    · rw [if_pos h1]
      show (if max i (-m) < f x then f x else max i (-m)) = max i (-(g x))
      by_cases h2 : max i (-m) < f x
      · rw [if_pos h2]; omega
      · rw [if_neg h2]; omega
    · rw [if_neg h1]
      show (if max i (-m) < f x then f x else max i (-m)) = max i (-m)
      rw [if_neg (by omega)]
theorem caskIn_n (h : House) (l : List Int) : (caskIn h l).n = l.length := by
  refine snoc_ind (P := fun l => (caskIn h l).n = l.length) rfl (fun l x ih => ?_) l
  rw [caskIn_snoc, List.length_append]
  simp only [layAt, layC, ih]
  simp
theorem used_pack {h : House} (hv : HOK h) : ∀ p ∈ packsL h, sumC usedC (packedC h p) 5 = usedF h p := fun p hp => by
  obtain ⟨h1, h2⟩ := mem_packsL hp
  exact sumC_packed (by simp [usedC, c0]) h1 (InRange.low (lo := 0) h2 (by omega)) (by have := hv.bl; omega)
theorem late_pack {h : House} (hv : HOK h) (day : Int) : ∀ p ∈ packsL h, sumC (lateC day) (packedC h p) 5 = -(earlyF day h p) := fun p hp => by
  obtain ⟨h1, h2⟩ := mem_packsL hp
  rw [late_early, sumC_packed (by unfold earlyC; split <;> rfl) h1 (InRange.low (lo := 0) h2 (by omega)) (by have := hv.bl; omega)]
  rfl
theorem pks_no {h : House} {is : Bool} (h0 : (pksS h is).2 = 0) : validH h = true ∧ is = true ∧ packsL h ≠ [] := by
  unfold pksS at h0
  split at h0
  · rename_i ha; exact absurd h0 ha
  · rename_i ha
    split at h0
    · cases h0
    · rename_i hp
      obtain ⟨h1, h2⟩ := askH_ok (by simpa using ha)
      exact ⟨h1, h2, hp⟩
theorem pks_err {h : House} {is : Bool} : (pksS h is).2 = if validH h = false then 80 else if is = false then 1 else if packsL h = [] then 3 else 0 := by
  unfold pksS askH
  by_cases hv : validH h = false
  · simp [hv]
  · by_cases hi : is = false
    · simp [hv, hi]
    · by_cases hp : packsL h = []
      · simp [hv, hi, hp]
      · simp [hv, hi, hp]
theorem few_eq (h : House) : numRet h true (fun l => sumC usedC l 5) = fewS h := by
  unfold numRet fewS
  rw [pks_err]
  by_cases hv : validH h = false
  · simp [hv]
  · have hV := HOK.ofValid (h := h) (by simpa using hv)
    simp only [hv, if_false, Bool.true_eq_false]
    rw [bestOf_congr (used_pack hV)]
    by_cases hp : packsL h = []
    · simp [hp, bestOf]
    · simp only [hp, if_false, ne_eq, not_true_eq_false]
      rw [foldMin_best]
      cases hb : bestOf (usedF h) (packsL h) with
      | none => exact absurd (bestOf_none.1 hb) hp
      | some q =>
        obtain ⟨p, m⟩ := q
        obtain ⟨e, _⟩ := bestOf_some hb
        have := usedF_bd h p
        simp only [orMin]
        rw [show min (h.bs.length : Int) m = m by omega]
theorem early_eq (h : House) (day : Int) : (-(numRet h (inR day 0 20) fun l => sumC (lateC day) l 5).1, (numRet h (inR day 0 20) fun l => sumC (lateC day) l 5).2) = earlyS h day := by
  unfold numRet earlyS
  rw [pks_err]
  by_cases hv : validH h = false
  · simp [hv]
  · have hV := HOK.ofValid (h := h) (by simpa using hv)
    simp only [hv, if_false]
    by_cases hi : inR day 0 20 = false
    · simp [hi]
    · simp only [hi, if_false]
      by_cases hp : packsL h = []
      · simp [hp, bestOf]
      · simp only [hp, if_false, ne_eq, not_true_eq_false]
        rw [foldMax_best (earlyF day h) _ 0 (packsL h) (late_pack hV day)]
        cases hb : bestOf (fun p => sumC (lateC day) (packedC h p) 5) (packsL h) with
        | none => exact absurd (bestOf_none.1 hb) hp
        | some q =>
          obtain ⟨p, m⟩ := q
          obtain ⟨e, hm, _⟩ := bestOf_some hb
          have h1 := late_pack hV day p hm
          have h2 := (earlyF_bd hV day (p := p) (by have := (mem_packsL hm).1; omega)).1
          simp only [orMax]
          rw [show max 0 (-m) = -m by omega]
          simp
end Go.Proofs.Ytgemmmdcpbajoaa
