import Derived.Test.YtgemmmdcpbajoaaUH
namespace Go.Proofs.Ytgemmmdcpbajoaa
open Go.RowKit

theorem least_eq (h : House) : numRet h true (fun l => sumC (saltC h.fl) l 5) = leastS h := by
  unfold numRet leastS
  by_cases hv : validH h = false
  · rw [if_pos hv, if_pos hv]
  · rw [if_neg hv, if_neg hv, if_neg (by simp)]
    rw [bestOf_congr (packF_eq (HOK.ofValid (by simpa using hv)))]
    cases bestOf (packF h) (packsL h) <;> rfl
def orMin (i : Int) : Option (List Int × Int) → Int
  | none => i
  | some q => min i q.2
def orMax (i : Int) : Option (List Int × Int) → Int
  | none => i
  | some q => max i (-q.2)
theorem foldMin_best (f : List Int → Int) (i : Int) (l : List (List Int)) : foldMin f i l = orMin i (bestOf f l) := by
  refine snoc_ind (P := fun l => foldMin f i l = orMin i (bestOf f l)) rfl (fun l x ih => ?_) l
  have e : foldMin f i (l ++ [x]) = if f x < foldMin f i l then f x else foldMin f i l := by unfold foldMin; rw [List.foldl_append]; rfl
  rw [e, bestOf_snoc, ih]
  cases hb : bestOf f l with
  | none =>
    show (if f x < i then f x else i) = min i (f x)
    by_cases h2 : f x < i
    · rw [if_pos h2]; omega
    · rw [if_neg h2]; omega
  | some q =>
    obtain ⟨p, m⟩ := q
    simp only [stepB]
    by_cases h1 : f x < m
    · rw [if_pos h1]
      show (if f x < min i m then f x else min i m) = min i (f x)
      by_cases h2 : f x < min i m
      · rw [if_pos h2]; omega
      · rw [if_neg h2]; omega
    · rw [if_neg h1]
      show (if f x < min i m then f x else min i m) = min i m
      rw [if_neg (by omega)]
theorem foldMax_best (f g : List Int → Int) (i : Int) (l : List (List Int)) (hg : ∀ p ∈ l, g p = -(f p)) : foldMax f i l = orMax i (bestOf g l) := by
  revert hg
  refine snoc_ind (P := fun l => (∀ p ∈ l, g p = -(f p)) → foldMax f i l = orMax i (bestOf g l)) (fun _ => rfl) (fun l x ih hg => ?_) l
  have e : foldMax f i (l ++ [x]) = if foldMax f i l < f x then f x else foldMax f i l := by unfold foldMax; rw [List.foldl_append]; rfl
  have hx := hg x (by simp)
  rw [e, bestOf_snoc, ih fun p hp => hg p (by simp [hp])]
  cases hb : bestOf g l with
  | none =>
    show (if i < f x then f x else i) = max i (-(g x))
    by_cases h2 : i < f x
    · rw [if_pos h2]; omega
    · rw [if_neg h2]; omega
  | some q =>
    obtain ⟨p, m⟩ := q
    simp only [stepB]
    by_cases h1 : g x < m
    · rw [if_pos h1]
      show (if max i (-m) < f x then f x else max i (-m)) = max i (-(g x))
      by_cases h2 : max i (-m) < f x
      · rw [if_pos h2]; omega
      · rw [if_neg h2]; omega
    · rw [if_neg h1]
      show (if max i (-m) < f x then f x else max i (-m)) = max i (-m)
      rw [if_neg (by omega)]
theorem caskIn_n (h : House) (l : List Int) : (caskIn h l).n = l.length := by
  refine snoc_ind (P := fun l => (caskIn h l).n = l.length) rfl (fun l x ih => ?_) l
  rw [caskIn_snoc, List.length_append]
  simp only [layAt, layC, ih]
  simp
theorem used_pack {h : House} (hv : HOK h) : ∀ p ∈ packsL h, sumC usedC (packedC h p) 5 = usedF h p := fun p hp => by
  obtain ⟨h1, h2⟩ := mem_packsL hp
  exact sumC_packed (by simp [usedC, c0]) h1 (InRange.low (lo := 0) h2 (by omega)) (by have := hv.bl; omega)
theorem late_pack {h : House} (hv : HOK h) (day : Int) : ∀ p ∈ packsL h, sumC (lateC day) (packedC h p) 5 = -(earlyF day h p) := fun p hp => by
  obtain ⟨h1, h2⟩ := mem_packsL hp
  rw [late_early, sumC_packed (by unfold earlyC; split <;> rfl) h1 (InRange.low (lo := 0) h2 (by omega)) (by have := hv.bl; omega)]
  rfl
theorem pks_no {h : House} {is : Bool} (h0 : (pksS h is).2 = 0) : validH h = true ∧ is = true ∧ packsL h ≠ [] := by
  unfold pksS at h0
  split at h0
  · rename_i ha; exact absurd h0 ha
  · rename_i ha
    split at h0
    · cases h0
    · rename_i hp
      obtain ⟨h1, h2⟩ := askH_ok (by simpa using ha)
      exact ⟨h1, h2, hp⟩
theorem pks_err {h : House} {is : Bool} : (pksS h is).2 = if validH h = false then 80 else if is = false then 1 else if packsL h = [] then 3 else 0 := by
  unfold pksS askH
  by_cases hv : validH h = false
  · simp [hv]
  · by_cases hi : is = false
    · simp [hv, hi]
    · by_cases hp : packsL h = []
      · simp [hv, hi, hp]
      · simp [hv, hi, hp]
theorem few_eq (h : House) : numRet h true (fun l => sumC usedC l 5) = fewS h := by
  unfold numRet fewS
  rw [pks_err]
  by_cases hv : validH h = false
  · simp [hv]
  · have hV := HOK.ofValid (h := h) (by simpa using hv)
    simp only [hv, if_false, Bool.true_eq_false]
    rw [bestOf_congr (used_pack hV)]
    by_cases hp : packsL h = []
    · simp [hp, bestOf]
    · simp only [hp, if_false, ne_eq, not_true_eq_false]
      rw [foldMin_best]
      cases hb : bestOf (usedF h) (packsL h) with
      | none => exact absurd (bestOf_none.1 hb) hp
      | some q =>
        obtain ⟨p, m⟩ := q
        obtain ⟨e, _⟩ := bestOf_some hb
        have := usedF_bd h p
        simp only [orMin]
        rw [show min (h.bs.length : Int) m = m by omega]
theorem early_eq (h : House) (day : Int) : (-(numRet h (inR day 0 20) fun l => sumC (lateC day) l 5).1, (numRet h (inR day 0 20) fun l => sumC (lateC day) l 5).2) = earlyS h day := by
  unfold numRet earlyS
  rw [pks_err]
  by_cases hv : validH h = false
  · simp [hv]
  · have hV := HOK.ofValid (h := h) (by simpa using hv)
    simp only [hv]
    by_cases hi : inR day 0 20 = false
    · simp [hi]
    · simp only [hi]
      by_cases hp : packsL h = []
      · simp [hp, bestOf]
      · simp only [hp, if_false, ne_eq]
        rw [foldMax_best (earlyF day h) _ 0 (packsL h) (late_pack hV day)]
        cases hb : bestOf (fun p => sumC (lateC day) (packedC h p) 5) (packsL h) with
        | none => exact absurd (bestOf_none.1 hb) hp
        | some q =>
          obtain ⟨p, m⟩ := q
          obtain ⟨e, hm, _⟩ := bestOf_some hb
          have h1 := late_pack hV day p hm
          have h2 := (earlyF_bd hV day (p := p) (by have := (mem_packsL hm).1; omega)).1
          simp only [orMax]
          rw [show max 0 (-m) = -m by omega]
          simp
end Go.Proofs.Ytgemmmdcpbajoaa
namespace Go.Proofs.Ytgemmmdcpbajoaa
open Go.RowKit

theorem pack_to {h : House} {B : Nat} {w' : World} {e : Ending} (hp : PackRet h (fun l => sumC (saltC h.fl) l 5) B w' e) : LRet (packS h) B w' e := by
  obtain ⟨A, n, c, he, h0, h1⟩ := hp
  have hn : (numRet h true (fun l => sumC (saltC h.fl) l 5)).2 = (packS h).2 := by
    rw [least_eq]
    unfold leastS packS
    by_cases hv : validH h = false
    · rw [if_pos hv, if_pos hv]
    · rw [if_neg hv, if_neg hv]
      cases bestOf (packF h) (packsL h) with
      | none => rfl
      | some q => obtain ⟨p, m⟩ := q; rfl
  have hpl : (packS h).2 ≠ 0 → (packS h).1 = [] := by
    unfold packS
    by_cases hv : validH h = false
    · rw [if_pos hv]; intro _; rfl
    · rw [if_neg hv]
      cases bestOf (packF h) (packsL h) with
      | none => intro _; rfl
      | some q => obtain ⟨p, m⟩ := q; intro hh; exact absurd rfl hh
  by_cases hz : (packS h).2 = 0
  · have hv : validH h = true := by
      cases hv : validH h
      · unfold packS at hz; rw [if_pos hv] at hz; cases hz
      · rfl
    cases hb : bestOf (packF h) (packsL h) with
    | none => unfold packS at hz; rw [if_neg (by simp [hv]), hb] at hz; cases hz
    | some q =>
      obtain ⟨p, m⟩ := q
      have hp1 : (packS h).1 = p := by unfold packS; rw [if_neg (by simp [hv]), hb]
      obtain ⟨pb, rfl, rfl, rfl, hP, hB⟩ := h1 p m hv (by rw [← hb]; exact bestOf_congr (packF_eq (HOK.ofValid hv)))
      refine ⟨some ⟨pb, 0, none⟩, p.length, by rw [he, hn, hp1], (fun h => by cases h), ?_⟩
      rw [hp1]
      refine .inr ⟨pb, 0, rfl, hB, heap_lt hP, fun i x hx => ?_⟩
      rw [Nat.zero_add]; exact hP.cell hx
  · obtain ⟨rfl, rfl, rfl⟩ := h0 (by rw [hn]; exact hz)
    have h3 := hpl hz
    exact ⟨none, 0, by rw [he, hn, h3]; rfl, fun _ => ⟨rfl, h3⟩, by rw [h3]; exact .inl rfl⟩
theorem where_eq (h : House) (part : Int) : whereRet h part = rWhereS h part := by
  unfold whereRet rWhereS
  rw [pks_err]
  cases hv : validH h
  · simp
  · cases hi : inR part 0 (h.ps.length - 1)
    · simp
    · by_cases hp : packsL h = []
      · simp [hp, errL, someTo]
      · have : errL (packsL h) = 0 := by unfold errL; rw [if_neg (by simpa using hp)]
        simp only [hp, this, if_false, Bool.true_eq_false, ne_eq, not_true_eq_false]
        rfl
theorem spare_eq (h : House) : spareRet h = rSpareS h := by
  unfold spareRet rSpareS
  rw [pks_err]
  cases hv : validH h
  · simp
  · by_cases hp : packsL h = []
    · simp [hp, errL, someTo]
    · have : errL (packsL h) = 0 := by unfold errL; rw [if_neg (by simpa using hp)]
      simp only [hp, this, if_false, Bool.true_eq_false, ne_eq, not_true_eq_false]
      have hV := HOK.ofValid hv
      congr 1
      unfold someTo
      congr 1
      apply List.filter_congr
      intro b hb
      have hb := List.mem_range.1 hb
      rw [Bool.eq_iff_iff, List.any_eq_true, List.any_eq_true]
      have key : ∀ x ∈ packsL h, decide ((caskOf (packedC h x) b).n = 0) = decide ((inOf x (b : Int)).length = 0) := fun x hx => by
        obtain ⟨l1, l2⟩ := mem_packsL hx
        have hbl := hV.bl
        rw [caskOf_packed l1 (InRange.low (lo := 0) l2 (by omega)) (by omega) (by omega), caskIn_n]
        rw [Bool.eq_iff_iff]
        simp
      constructor
      · rintro ⟨x, hx, h1⟩
        exact ⟨x, hx, by show decide ((inOf x (b : Int)).length = 0) = true; rw [← key x hx]; exact h1⟩
      · rintro ⟨x, hx, h1⟩
        exact ⟨x, hx, by show decide ((caskOf (packedC h x) b).n = 0) = true; rw [key x hx]; exact h1⟩
/-- A sum over the first numbers. -/
def sumN (g : Nat → Int) : Nat → Int
  | 0 => 0
  | n + 1 => sumN g n + g n
theorem sumN_one {g g' : Nat → Int} {x : Nat} {d : Int} (h : ∀ b, g' b = g b + if b = x then d else 0) : ∀ n, sumN g' n = sumN g n + if x < n then d else 0
  | 0 => by simp [sumN]
  | n + 1 => by
    rw [sumN, sumN, sumN_one h n, h n]
    by_cases h1 : n = x
    · subst h1; simp; omega
    · have : (x < n) ↔ (x < n + 1) := by omega
      simp only [h1, if_false, this]
      omega
theorem sumN_same {g g' : Nat → Int} {n : Nat} (h : ∀ b, b < n → g' b = g b) : sumN g' n = sumN g n := by
  induction n with
  | zero => rfl
  | succ n ih => rw [sumN, sumN, ih fun b hb => h b (by omega), h n (by omega)]
theorem sumB_N (f : Cask → Int) (h : House) (p : List Int) : ∀ n, sumB f h p n = sumN (fun b => f (caskIn h (inOf p b))) n
  | 0 => rfl
  | n + 1 => by rw [sumB, sumN, sumB_N f h p n]
theorem caskIn_p (h : House) (l : List Int) (i : Int) : (caskIn h (l ++ [i])).p = (caskIn h l).p + (partOf h i.toNat).2 := by rw [caskIn_snoc]; rfl
theorem laidTo_pounds {h : House} {p : List Int} {nb : Nat} (hr : InRange (-1) nb p) : ∀ k, k ≤ p.length → (caskIn h (laidTo p k)).p = sumN (fun b => (caskIn h (inTo p b k)).p) nb
  | 0, _ => by
    have : ∀ n, sumN (fun b => (caskIn h (inTo p b 0)).p) n = 0 := fun n => by
      induction n with
      | zero => rfl
      | succ n ih => rw [sumN, ih]; rfl
    rw [this]; rfl
  | k + 1, hk => by
    have ih := laidTo_pounds (h := h) hr k (by omega)
    have hx : p[k]? = some (barrelOf p k) := by simp [barrelOf, List.getD, List.getElem?_eq_getElem (show k < p.length by omega)]
    obtain ⟨x0, x1⟩ := hr _ (List.mem_of_getElem? hx)
    by_cases hm : barrelOf p k = -1
    · rw [laidTo_no (by simpa using hm), ih]
      refine sumN_same fun b _ => ?_
      rw [inTo_no (by omega)]
    · rw [laidTo_yes hm, caskIn_p, ih]
      obtain ⟨xn, hxn⟩ : ∃ xn : Nat, barrelOf p k = (xn : Int) := ⟨(barrelOf p k).toNat, by omega⟩
      rw [sumN_one (g := fun b => (caskIn h (inTo p b k)).p) (g' := fun b => (caskIn h (inTo p b (k + 1))).p) (x := xn) (d := (partOf h k).2) (fun b => by
        by_cases hb : b = xn
        · subst hb
          simp only [if_true]
          rw [inTo_yes hxn, caskIn_p]; rfl
        · simp only [hb, if_false]
          rw [inTo_no (by rw [hxn]; omega)]; omega) nb]
      rw [if_pos (by omega)]
      rfl
/-- The pounds of the parts that are laid down. -/
theorem laid_pounds {h : House} {p : List Int} {nb : Nat} (hr : InRange (-1) nb p) : laidF h p = sumB (·.p) h p nb := by
  rw [sumB_N]; exact laidTo_pounds hr p.length (Nat.le_refl _)
theorem laidTo_all {h : House} {p : List Int} {nb : Nat} (hr : InRange 0 nb p) : ∀ k, k ≤ p.length → (caskIn h (laidTo p k)).p = allP h k
  | 0, _ => rfl
  | k + 1, hk => by
    have hx : p[k]? = some (barrelOf p k) := by simp [barrelOf, List.getD, List.getElem?_eq_getElem (show k < p.length by omega)]
    have := (hr _ (List.mem_of_getElem? hx)).1
    rw [laidTo_yes (by omega), caskIn_p, laidTo_all hr k (by omega)]; rfl
theorem foldl_filter {α : Type} (f : Int → α → Int) (P : α → Bool) : ∀ (l : List α) (i : Int), (l.filter P).foldl f i = l.foldl (fun m p => if P p then f m p else m) i
  | [], _ => rfl
  | x :: l, i => by
    rw [List.filter_cons, List.foldl_cons]
    by_cases hx : P x = true
    · rw [if_pos hx, if_pos hx, List.foldl_cons]; exact foldl_filter f P l _
    · rw [if_neg hx, if_neg hx]; exact foldl_filter f P l _
theorem foldl_same {α : Type} {f g : Int → α → Int} : ∀ (l : List α) (i : Int), (∀ x ∈ l, ∀ m, f m x = g m x) → l.foldl f i = l.foldl g i
  | [], _, _ => rfl
  | x :: l, i, h => by rw [List.foldl_cons, List.foldl_cons, h x (by simp), foldl_same l _ fun y hy => h y (by simp [hy])]
theorem stock_eq (h : House) (much : Int) : stockRet h much = rStockS h much := by
  unfold stockRet rStockS askH
  cases hv : validH h
  · simp
  · cases hi : inR much 0 999
    · simp
    · simp only [Bool.true_eq_false, if_false, ne_eq, not_true_eq_false]
      congr 1
      have hV := HOK.ofValid hv
      have hbl := hV.bl
      unfold stockL rStockL fitting
      rw [foldl_filter]
      refine foldl_same _ _ fun x hx m => ?_
      obtain ⟨l1, l2⟩ := mem_allS.1 hx
      have hf := fits_packed hV l1 l2 (by omega)
      have hs : sumC (saltC h.fl) (packedC h x) 5 = packF h x := sumC_packed (by simp [saltC, c0]) l1 l2 (by omega)
      have hp : poundsC (packedC h x) = laidF h x := by rw [laid_pounds l2]; exact sumC_packed rfl l1 l2 (by omega)
      unfold stockF stockOK rStockF
      rw [hf, hs, hp]
      cases fitsR h x
      · simp
      · simp
end Go.Proofs.Ytgemmmdcpbajoaa
