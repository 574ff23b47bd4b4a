import Derived.Test.YtmbcpmnigggbaaaShA2
namespace Go.Proofs.Ytmbcpmnigggbaaa.Sh
/-! The plain law of dividing. -/

/-- The Fixed, one after the other: what each gets, and what is left. -/
def lFix : Int → List Node → List Int × Int
  | r, [] => ([], r)
  | r, x :: xs => (gmin x.f r :: (lFix (r - gmin x.f r) xs).1, (lFix (r - gmin x.f r) xs).2)
def lSum (l : List Node) : Int := (l.map (·.w)).sum
/-- What is still left when each has got its part by the Weights. -/
def lOdd (R sm : Int) (l : List Node) : Int := R - (l.map fun x => R * x.w / sm).sum
/-- The Fixed, the part, and one more while there are such. -/
def lFin (R sm : Int) : Int → List (Int × Node) → List Int
  | _, [] => []
  | o, (b, x) :: xs => if 0 < x.w ∧ 0 < o then (b + R * x.w / sm + 1) :: lFin R sm (o - 1) xs else (b + R * x.w / sm) :: lFin R sm o xs
def splitL (pence : Int) (l : List Node) : List Int × Int :=
  if 0 < lSum l then (lFin (lFix pence l).2 (lSum l) (lOdd (lFix pence l).2 (lSum l) l) ((lFix pence l).1.zip l), 0) else lFix pence l

theorem lFix_len (l : List Node) : ∀ r, (lFix r l).1.length = l.length := by
  induction l with
  | nil => intro r; rfl
  | cons x xs ih => intro r; simp [lFix, ih]
theorem lFin_len (R sm : Int) (l : List (Int × Node)) : ∀ o, (lFin R sm o l).length = l.length := by
  induction l with
  | nil => intro o; rfl
  | cons x xs ih => intro o; obtain ⟨b, x⟩ := x; simp only [lFin]; split <;> simp [ih]
theorem splitL_len (pence : Int) (l : List Node) : (splitL pence l).1.length = l.length := by
  unfold splitL
  split
  · simp [lFin_len, lFix_len]
  · exact lFix_len l pence

theorem lFix_sum (l : List Node) : ∀ r, (lFix r l).1.sum + (lFix r l).2 = r := by
  induction l with
  | nil => intro r; simp [lFix]
  | cons x xs ih => intro r; have := ih (r - gmin x.f r); simp only [lFix, List.sum_cons]; omega
theorem gmin_bd {a b : Int} (ha : 0 ≤ a) (hb : 0 ≤ b) : 0 ≤ gmin a b ∧ gmin a b ≤ b ∧ gmin a b ≤ a := by unfold gmin; split <;> omega
theorem lFix_bd (l : List Node) (hf : ∀ x ∈ l, 0 ≤ x.f) : ∀ r, 0 ≤ r → 0 ≤ (lFix r l).2 ∧ (lFix r l).2 ≤ r ∧ ∀ v ∈ (lFix r l).1, 0 ≤ v := by
  induction l with
  | nil => intro r hr; simp [lFix]; exact hr
  | cons x xs ih =>
    intro r hr
    have hx := hf x (by simp)
    obtain ⟨g1, g2, g3⟩ := gmin_bd hx hr
    obtain ⟨i1, i2, i3⟩ := ih (fun y hy => hf y (by simp [hy])) (r - gmin x.f r) (by omega)
    refine ⟨i1, by simp only [lFix]; omega, fun v hv => ?_⟩
    simp only [lFix, List.mem_cons] at hv
    rcases hv with rfl | hv
    · exact g1
    · exact i3 v hv

/-- How many have a Weight above 0. -/
def lPos (l : List Node) : Int := (l.map fun x => if 0 < x.w then (1 : Int) else 0).sum

theorem lPos_nonneg (l : List Node) : 0 ≤ lPos l := by
  induction l with
  | nil => simp [lPos]
  | cons x xs ih => simp only [lPos, List.map_cons, List.sum_cons] at ih ⊢; split <;> omega

theorem lFin_sum (R sm : Int) (l : List (Int × Node)) : ∀ o, 0 ≤ o → o ≤ lPos (l.map (·.2)) → (lFin R sm o l).sum = (l.map (·.1)).sum + ((l.map (·.2)).map fun x => R * x.w / sm).sum + o := by
  induction l with
  | nil => intro o h0 h1; simp [lPos] at h1; simp [lFin]; omega
  | cons p xs ih =>
    intro o h0 h1
    obtain ⟨b, x⟩ := p
    simp only [lPos, List.map_cons, List.sum_cons] at h1
    simp only [lFin, List.map_cons, List.sum_cons]
    by_cases hw : 0 < x.w ∧ 0 < o
    · rw [if_pos hw]
      rw [if_pos hw.1] at h1
      have := ih (o - 1) (by omega) (by simp only [lPos]; omega)
      simp only [List.sum_cons]
      omega
    · rw [if_neg hw]
      have h2 : o ≤ lPos (xs.map (·.2)) := by
        by_cases hx : 0 < x.w
        · have ho : o = 0 := by
            by_cases h : 0 < o
            · exact absurd ⟨hx, h⟩ hw
            · omega
          rw [ho]
          exact lPos_nonneg _
        · rw [if_neg hx] at h1
          rw [Int.zero_add] at h1
          exact h1
      have := ih o h0 h2
      simp only [List.sum_cons]
      omega

/-- What is left is less than the number of those with a Weight. -/
theorem lOdd_mul (R sm : Int) (hs : 0 < sm) (l : List Node) (hw : ∀ x ∈ l, 0 ≤ x.w) :
    0 ≤ R * lSum l - sm * (l.map fun x => R * x.w / sm).sum ∧ R * lSum l - sm * (l.map fun x => R * x.w / sm).sum ≤ (sm - 1) * lPos l := by
  induction l with
  | nil => simp [lSum, lPos]
  | cons x xs ih =>
    obtain ⟨i1, i2⟩ := ih (fun y hy => hw y (by simp [hy]))
    have hx := hw x (by simp)
    have e1 : lSum (x :: xs) = x.w + lSum xs := by simp [lSum]
    have e2 : lPos (x :: xs) = (if 0 < x.w then 1 else 0) + lPos xs := by simp [lPos]
    rw [e1, e2]
    simp only [List.map_cons, List.sum_cons]
    have hm := Int.emod_nonneg (R * x.w) (Int.ne_of_gt hs)
    have hm2 := Int.emod_lt_of_pos (R * x.w) hs
    have hd := Int.mul_ediv_add_emod (R * x.w) sm
    have e3 : R * (x.w + lSum xs) = R * x.w + R * lSum xs := Int.mul_add _ _ _
    have e4 : sm * (R * x.w / sm + (xs.map fun x => R * x.w / sm).sum) = sm * (R * x.w / sm) + sm * (xs.map fun x => R * x.w / sm).sum := Int.mul_add _ _ _
    have e5 : (sm - 1) * ((if 0 < x.w then 1 else 0) + lPos xs) = (sm - 1) * (if 0 < x.w then 1 else 0) + (sm - 1) * lPos xs := Int.mul_add _ _ _
    rw [e3, e4, e5]
    by_cases h : 0 < x.w
    · rw [if_pos h]
      omega
    · have h0 : x.w = 0 := by omega
      rw [if_neg h]
      rw [h0] at hm hm2 hd ⊢
      simp at hd ⊢
      omega

theorem lOdd_bd (R : Int) (l : List Node) (hw : ∀ x ∈ l, 0 ≤ x.w) (hs : 0 < lSum l) : 0 ≤ lOdd R (lSum l) l ∧ lOdd R (lSum l) l ≤ lPos l := by
  obtain ⟨h1, h2⟩ := lOdd_mul R (lSum l) hs l hw
  have hp := lPos_nonneg l
  unfold lOdd
  have e : R * lSum l - lSum l * (l.map fun x => R * x.w / lSum l).sum = lSum l * (R - (l.map fun x => R * x.w / lSum l).sum) := by rw [Int.mul_sub, Int.mul_comm R]
  rw [e] at h1 h2
  generalize R - (l.map fun x => R * x.w / lSum l).sum = o at *
  refine ⟨?_, ?_⟩
  · by_cases h : 0 ≤ o
    · exact h
    · have : lSum l * o ≤ lSum l * (-1) := Int.mul_le_mul_of_nonneg_left (by omega) (by omega)
      omega
  · by_cases h : o ≤ lPos l
    · exact h
    · have h3 : lSum l * (lPos l + 1) ≤ lSum l * o := Int.mul_le_mul_of_nonneg_left (by omega) (by omega)
      rw [Int.mul_add] at h3
      rw [Int.sub_mul] at h2
      omega

/-- All that is divided is paid once; nobody gets less than nothing. -/
theorem splitL_sum (pence : Int) (l : List Node) (hp : 0 ≤ pence) (hw : ∀ x ∈ l, 0 ≤ x.w) (hf : ∀ x ∈ l, 0 ≤ x.f) : (splitL pence l).1.sum + (splitL pence l).2 = pence := by
  unfold splitL
  obtain ⟨b1, b2, b3⟩ := lFix_bd l hf pence hp
  split
  · rename_i hs
    obtain ⟨o1, o2⟩ := lOdd_bd (lFix pence l).2 l hw hs
    have e2 : ((lFix pence l).1.zip l).map (·.2) = l := List.map_snd_zip (by rw [lFix_len]; omega)
    have e1 : ((lFix pence l).1.zip l).map (·.1) = (lFix pence l).1 := List.map_fst_zip (by rw [lFix_len]; omega)
    have := lFin_sum (lFix pence l).2 (lSum l) ((lFix pence l).1.zip l) (lOdd (lFix pence l).2 (lSum l) l) o1 (by rw [e2]; exact o2)
    have hx := lFix_sum l pence
    simp only [e1, e2] at this
    simp only
    rw [this]
    unfold lOdd
    omega
  · exact lFix_sum l pence
theorem lFin_nonneg (R sm : Int) (hR : 0 ≤ R) (hs : 0 < sm) (l : List (Int × Node)) (hb : ∀ p ∈ l, 0 ≤ p.1 ∧ 0 ≤ p.2.w) : ∀ o, ∀ v ∈ lFin R sm o l, 0 ≤ v := by
  induction l with
  | nil => intro o v hv; simp [lFin] at hv
  | cons p xs ih =>
    intro o v hv
    obtain ⟨b, x⟩ := p
    have h1 := hb (b, x) (by simp)
    have hq : 0 ≤ R * x.w / sm := Int.ediv_nonneg (Int.mul_nonneg hR h1.2) (by omega)
    simp only [lFin] at hv
    split at hv
    · rcases List.mem_cons.1 hv with rfl | hv
      · have := h1.1; simp only at this; omega
      · exact ih (fun q hq => hb q (by simp [hq])) _ v hv
    · rcases List.mem_cons.1 hv with rfl | hv
      · have := h1.1; simp only at this; omega
      · exact ih (fun q hq => hb q (by simp [hq])) _ v hv
theorem splitL_nonneg (pence : Int) (l : List Node) (hp : 0 ≤ pence) (hw : ∀ x ∈ l, 0 ≤ x.w) (hf : ∀ x ∈ l, 0 ≤ x.f) : (∀ v ∈ (splitL pence l).1, 0 ≤ v) ∧ 0 ≤ (splitL pence l).2 := by
  unfold splitL
  obtain ⟨b1, b2, b3⟩ := lFix_bd l hf pence hp
  split
  · rename_i hs
    refine ⟨lFin_nonneg _ _ b1 hs _ (fun p hp => ?_) _, Int.le_refl _⟩
    obtain ⟨h1, h2⟩ := List.of_mem_zip hp
    exact ⟨b3 _ h1, hw _ h2⟩
  · exact ⟨b3, b1⟩
/-! What the walk of split comes to is the plain law's. -/
def nodesOf {m : Nat} (l : List (KX m)) : List Node := l.map fun x => x.1.2
def keysOf {m : Nat} (l : List (KX m)) : List Nat := l.map fun x => x.1.1
/-- No key stands twice. -/
def Keyd {m : Nat} (l : List (KX m)) : Prop := l.Pairwise (fun x y => x.1.1 ≠ y.1.1)

theorem upd_other (g : Int → Int) {k i : Int} (v : Int) (h : i ≠ k) : upd g k v i = g i := if_neg h

theorem fix_eq {m : Nat} (l : List (KX m)) : Keyd l → ∀ (g : Int → Int) (r : Int),
    (l.foldl stF (g, r)).2 = (lFix r (nodesOf l)).2 ∧ (∀ k : Int, (∀ x ∈ l, (x.1.1 : Int) ≠ k) → (l.foldl stF (g, r)).1 k = g k) ∧ l.map (fun x => (l.foldl stF (g, r)).1 x.1.1) = (lFix r (nodesOf l)).1 := by
  induction l with
  | nil => intro _ g r; simp [nodesOf, lFix]
  | cons x xs ih =>
    intro hk g r
    obtain ⟨h1, h2⟩ := List.pairwise_cons.1 hk
    obtain ⟨i1, i2, i3⟩ := ih h2 (stF (g, r) x).1 (stF (g, r) x).2
    have e : (stF (g, r) x).2 = r - gmin x.1.2.f r := rfl
    have e1 : (stF (g, r) x).1 x.1.1 = gmin x.1.2.f r := upd_same _ _ _
    simp only [List.foldl_cons, nodesOf, List.map_cons, lFix] at i1 i2 i3 ⊢
    refine ⟨by rw [← e]; exact i1, fun k hkk => ?_, ?_⟩
    · have := i2 k (fun y hy => hkk y (by simp [hy]))
      have h3 : (stF (g, r) x).1 k = g k := upd_other _ _ (fun h => hkk x (by simp) h.symm)
      exact this.trans h3
    · have := i2 x.1.1 (fun y hy h => h1 y hy (by omega))
      rw [e] at i3
      have h4 : (List.foldl stF (stF (g, r) x) xs).fst x.1.1 = gmin x.1.2.f r := this.trans e1
      rw [h4]
      exact congrArg _ i3

theorem parts_eq {m : Nat} (R sm : Int) (l : List (KX m)) : Keyd l → ∀ (g : Int → Int) (o : Int),
    (l.foldl (stG R sm) (g, o)).2 = o - ((nodesOf l).map fun x => R * x.w / sm).sum ∧ (∀ k : Int, (∀ x ∈ l, (x.1.1 : Int) ≠ k) → (l.foldl (stG R sm) (g, o)).1 k = g k) ∧
      l.map (fun x => (l.foldl (stG R sm) (g, o)).1 x.1.1) = l.map (fun x => g x.1.1 + R * x.1.2.w / sm) := by
  induction l with
  | nil => intro _ g o; simp [nodesOf]
  | cons x xs ih =>
    intro hk g o
    obtain ⟨h1, h2⟩ := List.pairwise_cons.1 hk
    obtain ⟨i1, i2, i3⟩ := ih h2 (stG R sm (g, o) x).1 (stG R sm (g, o) x).2
    have e : (stG R sm (g, o) x).2 = o - R * x.1.2.w / sm := rfl
    have e1 : (stG R sm (g, o) x).1 x.1.1 = g x.1.1 + R * x.1.2.w / sm := upd_same _ _ _
    simp only [List.foldl_cons, nodesOf, List.map_cons, List.sum_cons] at i1 i2 i3 ⊢
    refine ⟨i1.trans (by rw [e]; omega), fun k hkk => ?_, ?_⟩
    · have := i2 k (fun y hy => hkk y (by simp [hy]))
      have h3 : (stG R sm (g, o) x).1 k = g k := upd_other _ _ (fun h => hkk x (by simp) h.symm)
      exact this.trans h3
    · have h4 : (List.foldl (stG R sm) (stG R sm (g, o) x) xs).fst x.1.1 = g x.1.1 + R * x.1.2.w / sm := (i2 x.1.1 (fun y hy h => h1 y hy (by omega))).trans e1
      rw [h4]
      refine congrArg _ (i3.trans (List.map_congr_left fun y hy => ?_))
      have : (stG R sm (g, o) x).1 y.1.1 = g y.1.1 := upd_other _ _ (fun h => h1 y hy (by omega))
      rw [this]

theorem ones_eq {m : Nat} (R sm : Int) (l : List (KX m)) : Keyd l → ∀ (g : Int → Int) (o : Int) (bs : List Int), bs.length = l.length →
    l.map (fun x => g x.1.1) = (bs.zip (nodesOf l)).map (fun p => p.1 + R * p.2.w / sm) →
    (∀ k : Int, (∀ x ∈ l, (x.1.1 : Int) ≠ k) → (l.foldl stH (g, o)).1 k = g k) ∧ l.map (fun x => (l.foldl stH (g, o)).1 x.1.1) = lFin R sm o (bs.zip (nodesOf l)) := by
  induction l with
  | nil => intro _ g o bs hl hg; simp [nodesOf, lFin]
  | cons x xs ih =>
    intro hk g o bs hl hg
    obtain ⟨h1, h2⟩ := List.pairwise_cons.1 hk
    rcases bs with _ | ⟨b, bs⟩
    · simp at hl
    simp only [nodesOf, List.map_cons, List.zip_cons_cons, List.cons.injEq] at hg
    obtain ⟨hg1, hg2⟩ := hg
    have hx : ∀ y ∈ xs, (stH (g, o) x).1 y.1.1 = g y.1.1 := fun y hy => by
      unfold stH
      split
      · exact upd_other _ _ (fun h => h1 y hy (by omega))
      · rfl
    obtain ⟨i2, i3⟩ := ih h2 (stH (g, o) x).1 (stH (g, o) x).2 bs (by simpa using hl) ((List.map_congr_left hx).trans hg2)
    simp only [List.foldl_cons, nodesOf, List.map_cons, List.zip_cons_cons, lFin] at i2 i3 ⊢
    refine ⟨fun k hkk => ?_, ?_⟩
    · have := i2 k (fun y hy => hkk y (by simp [hy]))
      refine this.trans ?_
      unfold stH
      split
      · exact upd_other _ _ (fun h => hkk x (by simp) h.symm)
      · rfl
    · have h4 := i2 x.1.1 (fun y hy h => h1 y hy (by omega))
      have e5 : List.foldl stH ((stH (g, o) x).1, (stH (g, o) x).2) xs = List.foldl stH (stH (g, o) x) xs := rfl
      rw [e5] at h4 i3
      rw [h4]
      by_cases hc : 0 < x.1.2.w ∧ 0 < o
      · have e : stH (g, o) x = (upd g x.1.1 (g x.1.1 + 1), o - 1) := if_pos hc
        rw [if_pos hc]
        rw [e] at i3 ⊢
        have h6 : (upd g x.1.1 (g x.1.1 + 1), o - 1).1 x.1.1 = b + R * x.1.2.w / sm + 1 := by rw [← hg1]; exact upd_same _ _ _
        rw [h6]
        exact congrArg _ i3
      · have e : stH (g, o) x = (g, o) := if_neg hc
        rw [if_neg hc]
        rw [e] at i3 ⊢
        simp only
        rw [hg1]
        exact congrArg _ i3

theorem sumK_eq {m : Nat} (l : List (KX m)) : sumK l = lSum (nodesOf l) := by
  have h : ∀ (l : List (KX m)) (s : Int), l.foldl (fun s x => s + x.1.2.w) s = s + lSum (nodesOf l) := by
    intro l
    induction l with
    | nil => intro s; simp [nodesOf, lSum]
    | cons x xs ih => intro s; simp only [List.foldl_cons, ih, nodesOf, List.map_cons, lSum, List.sum_cons]; omega
  rw [sumK, h]
  omega

theorem zip_map_left {α : Type} (f : α → Nat) (g : α → Int) (l : List α) : l.map (fun x => (f x, g x)) = (l.map f).zip (l.map g) := by
  induction l with
  | nil => rfl
  | cons x xs ih => simp [ih]

theorem zip_map_two {m : Nat} (g : Int → Int) (R sm : Int) (l : List (KX m)) : l.map (fun x => g x.1.1 + R * x.1.2.w / sm) = ((l.map fun x => g x.1.1).zip (nodesOf l)).map (fun p => p.1 + R * p.2.w / sm) := by
  induction l with
  | nil => rfl
  | cons x xs ih => simp only [List.map_cons, nodesOf, List.zip_cons_cons] at ih ⊢; rw [ih]

/-- **split's walk, by the plain law.** -/
theorem splitF_eq {m : Nat} (pence : Int) (l : List (KX m)) (hk : Keyd l) :
    (splitF pence l).2 = (splitL pence (nodesOf l)).2 ∧ l.map (fun x => (splitF pence l).1 x.1.1) = (splitL pence (nodesOf l)).1 := by
  obtain ⟨f1, _, f3⟩ := fix_eq l hk (fun _ => 0) pence
  unfold splitF splitL
  rw [sumK_eq]
  split
  · obtain ⟨p1, _, p3⟩ := parts_eq (fold1 pence l).2 (lSum (nodesOf l)) l hk (fold1 pence l).1 (fold1 pence l).2
    have hb : l.map (fun x => (fold2 (fold1 pence l).1 (fold1 pence l).2 (lSum (nodesOf l)) l).1 x.1.1) = ((lFix pence (nodesOf l)).1.zip (nodesOf l)).map (fun p => p.1 + (fold1 pence l).2 * p.2.w / lSum (nodesOf l)) := by
      refine p3.trans ?_
      have f3' : l.map (fun x => (fold1 pence l).1 x.1.1) = (lFix pence (nodesOf l)).1 := f3
      rw [← f3']
      exact zip_map_two _ _ _ l
    obtain ⟨_, o3⟩ := ones_eq (fold1 pence l).2 (lSum (nodesOf l)) l hk (fold2 (fold1 pence l).1 (fold1 pence l).2 (lSum (nodesOf l)) l).1 (fold2 (fold1 pence l).1 (fold1 pence l).2 (lSum (nodesOf l)) l).2 (lFix pence (nodesOf l)).1 (by simp [lFix_len, nodesOf]) hb
    refine ⟨rfl, ?_⟩
    refine o3.trans ?_
    have e1 : (fold1 pence l).2 = (lFix pence (nodesOf l)).2 := f1
    have e2 : (fold2 (fold1 pence l).1 (fold1 pence l).2 (lSum (nodesOf l)) l).2 = lOdd (lFix pence (nodesOf l)).2 (lSum (nodesOf l)) (nodesOf l) := by
      rw [lOdd, ← e1]
      exact p1
    rw [e2, e1]
  · exact ⟨f1, f3⟩
theorem gives_eq {m : Nat} (pence : Int) (l : List (KX m)) (hk : Keyd l) : gives (splitF pence l).1 l = (keysOf l).zip (splitL pence (nodesOf l)).1 := by
  rw [← (splitF_eq pence l hk).2, gives, keysOf]
  exact zip_map_left _ _ l
end Go.Proofs.Ytmbcpmnigggbaaa.Sh
