import Derived.Test.YtohoonbbjkefaaaM1
namespace Go.Proofs.Ytohoonbbjkefaaa

/-! What the walk of split comes to is the plain law's. -/
def nodesOf {m : Nat} (l : List (KX m)) : List Node := l.map fun x => x.1.2
def keysOf {m : Nat} (l : List (KX m)) : List Nat := l.map fun x => x.1.1
/-- No key stands twice. -/
def Keyd {m : Nat} (l : List (KX m)) : Prop := l.Pairwise (fun x y => x.1.1 ≠ y.1.1)

theorem upd_other (g : Int → Int) {k i : Int} (v : Int) (h : i ≠ k) : upd g k v i = g i := if_neg h

theorem fix_eq {m : Nat} (l : List (KX m)) : Keyd l → ∀ (g : Int → Int) (r : Int),
    (l.foldl stF (g, r)).2 = (lFix r (nodesOf l)).2 ∧ (∀ k : Int, (∀ x ∈ l, (x.1.1 : Int) ≠ k) → (l.foldl stF (g, r)).1 k = g k) ∧ l.map (fun x => (l.foldl stF (g, r)).1 x.1.1) = (lFix r (nodesOf l)).1 := by
  induction l with
  | nil => intro _ g r; simp [nodesOf, lFix]
  | cons x xs ih =>
    intro hk g r
    obtain ⟨h1, h2⟩ := List.pairwise_cons.1 hk
    obtain ⟨i1, i2, i3⟩ := ih h2 (stF (g, r) x).1 (stF (g, r) x).2
    have e : (stF (g, r) x).2 = r - gmin x.1.2.f r := rfl
    have e1 : (stF (g, r) x).1 x.1.1 = gmin x.1.2.f r := upd_same _ _ _
    simp only [List.foldl_cons, nodesOf, List.map_cons, lFix] at i1 i2 i3 ⊢
    refine ⟨by rw [← e]; exact i1, fun k hkk => ?_, ?_⟩
    · have := i2 k (fun y hy => hkk y (by simp [hy]))
      have h3 : (stF (g, r) x).1 k = g k := upd_other _ _ (fun h => hkk x (by simp) h.symm)
      exact this.trans h3
    · have := i2 x.1.1 (fun y hy h => h1 y hy (by omega))
      rw [e] at i3
      have h4 : (List.foldl stF (stF (g, r) x) xs).fst x.1.1 = gmin x.1.2.f r := this.trans e1
      rw [h4]
      exact congrArg _ i3

theorem parts_eq {m : Nat} (R sm : Int) (l : List (KX m)) : Keyd l → ∀ (g : Int → Int) (o : Int),
    (l.foldl (stG R sm) (g, o)).2 = o - ((nodesOf l).map fun x => R * x.w / sm).sum ∧ (∀ k : Int, (∀ x ∈ l, (x.1.1 : Int) ≠ k) → (l.foldl (stG R sm) (g, o)).1 k = g k) ∧
      l.map (fun x => (l.foldl (stG R sm) (g, o)).1 x.1.1) = l.map (fun x => g x.1.1 + R * x.1.2.w / sm) := by
  induction l with
  | nil => intro _ g o; simp [nodesOf]
  | cons x xs ih =>
    intro hk g o
    obtain ⟨h1, h2⟩ := List.pairwise_cons.1 hk
    obtain ⟨i1, i2, i3⟩ := ih h2 (stG R sm (g, o) x).1 (stG R sm (g, o) x).2
    have e : (stG R sm (g, o) x).2 = o - R * x.1.2.w / sm := rfl
    have e1 : (stG R sm (g, o) x).1 x.1.1 = g x.1.1 + R * x.1.2.w / sm := upd_same _ _ _
    simp only [List.foldl_cons, nodesOf, List.map_cons, List.sum_cons] at i1 i2 i3 ⊢
    refine ⟨i1.trans (by rw [e]; omega), fun k hkk => ?_, ?_⟩
    · have := i2 k (fun y hy => hkk y (by simp [hy]))
      have h3 : (stG R sm (g, o) x).1 k = g k := upd_other _ _ (fun h => hkk x (by simp) h.symm)
      exact this.trans h3
    · have h4 : (List.foldl (stG R sm) (stG R sm (g, o) x) xs).fst x.1.1 = g x.1.1 + R * x.1.2.w / sm := (i2 x.1.1 (fun y hy h => h1 y hy (by omega))).trans e1
      rw [h4]
      refine congrArg _ (i3.trans (List.map_congr_left fun y hy => ?_))
      have : (stG R sm (g, o) x).1 y.1.1 = g y.1.1 := upd_other _ _ (fun h => h1 y hy (by omega))
      rw [this]

theorem ones_eq {m : Nat} (R sm : Int) (l : List (KX m)) : Keyd l → ∀ (g : Int → Int) (o : Int) (bs : List Int), bs.length = l.length →
    l.map (fun x => g x.1.1) = (bs.zip (nodesOf l)).map (fun p => p.1 + R * p.2.w / sm) →
    (∀ k : Int, (∀ x ∈ l, (x.1.1 : Int) ≠ k) → (l.foldl stH (g, o)).1 k = g k) ∧ l.map (fun x => (l.foldl stH (g, o)).1 x.1.1) = lFin R sm o (bs.zip (nodesOf l)) := by
  induction l with
  | nil => intro _ g o bs hl hg; simp [nodesOf, lFin]
  | cons x xs ih =>
    intro hk g o bs hl hg
    obtain ⟨h1, h2⟩ := List.pairwise_cons.1 hk
    rcases bs with _ | ⟨b, bs⟩
    · simp at hl
    simp only [nodesOf, List.map_cons, List.zip_cons_cons, List.cons.injEq] at hg
    obtain ⟨hg1, hg2⟩ := hg
    have hx : ∀ y ∈ xs, (stH (g, o) x).1 y.1.1 = g y.1.1 := fun y hy => by
      unfold stH
      split
      · exact upd_other _ _ (fun h => h1 y hy (by omega))
      · rfl
    obtain ⟨i2, i3⟩ := ih h2 (stH (g, o) x).1 (stH (g, o) x).2 bs (by simpa using hl) ((List.map_congr_left hx).trans hg2)
    simp only [List.foldl_cons, nodesOf, List.map_cons, List.zip_cons_cons, lFin] at i2 i3 ⊢
    refine ⟨fun k hkk => ?_, ?_⟩
    · have := i2 k (fun y hy => hkk y (by simp [hy]))
      refine this.trans ?_
      unfold stH
      split
      · exact upd_other _ _ (fun h => hkk x (by simp) h.symm)
      · rfl
    · have h4 := i2 x.1.1 (fun y hy h => h1 y hy (by omega))
      have e5 : List.foldl stH ((stH (g, o) x).1, (stH (g, o) x).2) xs = List.foldl stH (stH (g, o) x) xs := rfl
      rw [e5] at h4 i3
      rw [h4]
      by_cases hc : 0 < x.1.2.w ∧ 0 < o
      · have e : stH (g, o) x = (upd g x.1.1 (g x.1.1 + 1), o - 1) := if_pos hc
        rw [if_pos hc]
        rw [e] at i3 ⊢
        have h6 : (upd g x.1.1 (g x.1.1 + 1), o - 1).1 x.1.1 = b + R * x.1.2.w / sm + 1 := by rw [← hg1]; exact upd_same _ _ _
        rw [h6]
        exact congrArg _ i3
      · have e : stH (g, o) x = (g, o) := if_neg hc
        rw [if_neg hc]
        rw [e] at i3 ⊢
        simp only
        rw [hg1]
        exact congrArg _ i3

theorem sumK_eq {m : Nat} (l : List (KX m)) : sumK l = lSum (nodesOf l) := by
  have h : ∀ (l : List (KX m)) (s : Int), l.foldl (fun s x => s + x.1.2.w) s = s + lSum (nodesOf l) := by
    intro l
    induction l with
    | nil => intro s; simp [nodesOf, lSum]
    | cons x xs ih => intro s; simp only [List.foldl_cons, ih, nodesOf, List.map_cons, lSum, List.sum_cons]; omega
  rw [sumK, h]
  omega

theorem zip_map_left {α : Type} (f : α → Nat) (g : α → Int) (l : List α) : l.map (fun x => (f x, g x)) = (l.map f).zip (l.map g) := by
  induction l with
  | nil => rfl
  | cons x xs ih => simp [ih]

theorem zip_map_two {m : Nat} (g : Int → Int) (R sm : Int) (l : List (KX m)) : l.map (fun x => g x.1.1 + R * x.1.2.w / sm) = ((l.map fun x => g x.1.1).zip (nodesOf l)).map (fun p => p.1 + R * p.2.w / sm) := by
  induction l with
  | nil => rfl
  | cons x xs ih => simp only [List.map_cons, nodesOf, List.zip_cons_cons] at ih ⊢; rw [ih]

/-- **split's walk, by the plain law.** -/
theorem splitF_eq {m : Nat} (pence : Int) (l : List (KX m)) (hk : Keyd l) :
    (splitF pence l).2 = (splitL pence (nodesOf l)).2 ∧ l.map (fun x => (splitF pence l).1 x.1.1) = (splitL pence (nodesOf l)).1 := by
  obtain ⟨f1, _, f3⟩ := fix_eq l hk (fun _ => 0) pence
  unfold splitF splitL
  rw [sumK_eq]
  split
  · obtain ⟨p1, _, p3⟩ := parts_eq (fold1 pence l).2 (lSum (nodesOf l)) l hk (fold1 pence l).1 (fold1 pence l).2
    have hb : l.map (fun x => (fold2 (fold1 pence l).1 (fold1 pence l).2 (lSum (nodesOf l)) l).1 x.1.1) = ((lFix pence (nodesOf l)).1.zip (nodesOf l)).map (fun p => p.1 + (fold1 pence l).2 * p.2.w / lSum (nodesOf l)) := by
      refine p3.trans ?_
      have f3' : l.map (fun x => (fold1 pence l).1 x.1.1) = (lFix pence (nodesOf l)).1 := f3
      rw [← f3']
      exact zip_map_two _ _ _ l
    obtain ⟨_, o3⟩ := ones_eq (fold1 pence l).2 (lSum (nodesOf l)) l hk (fold2 (fold1 pence l).1 (fold1 pence l).2 (lSum (nodesOf l)) l).1 (fold2 (fold1 pence l).1 (fold1 pence l).2 (lSum (nodesOf l)) l).2 (lFix pence (nodesOf l)).1 (by simp [lFix_len, nodesOf]) hb
    refine ⟨rfl, ?_⟩
    refine o3.trans ?_
    have e1 : (fold1 pence l).2 = (lFix pence (nodesOf l)).2 := f1
    have e2 : (fold2 (fold1 pence l).1 (fold1 pence l).2 (lSum (nodesOf l)) l).2 = lOdd (lFix pence (nodesOf l)).2 (lSum (nodesOf l)) (nodesOf l) := by
      rw [lOdd, ← e1]
      exact p1
    rw [e2, e1]
  · exact ⟨f1, f3⟩
theorem gives_eq {m : Nat} (pence : Int) (l : List (KX m)) (hk : Keyd l) : gives (splitF pence l).1 l = (keysOf l).zip (splitL pence (nodesOf l)).1 := by
  rw [← (splitF_eq pence l hk).2, gives, keysOf]
  exact zip_map_left _ _ l
end Go.Proofs.Ytohoonbbjkefaaa
