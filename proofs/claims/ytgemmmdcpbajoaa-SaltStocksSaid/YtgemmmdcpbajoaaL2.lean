import Derived.Test.YtgemmmdcpbajoaaL1
namespace Go.Proofs.Ytgemmmdcpbajoaa
open Go.RowKit

/-! Casks by their parts: sums and greatest ones; with more parts nothing is less. -/
def poundsAt (h : House) (i : Int) : Int := (partOf h i.toNat).2
def strongAt (h : House) (i : Int) : Int := (kindOf h (partOf h i.toNat)).1
def daysAt (h : House) (i : Int) : Int := (kindOf h (partOf h i.toNat)).2
theorem cask_n (h : House) (l : List Int) : (caskIn h l).n = l.length :=
  snoc_ind (P := fun l => (caskIn h l).n = l.length) rfl (fun l x ih => by rw [caskIn_snoc, List.length_append]; simp only [layAt, layC, ih]; simp) l
theorem cask_p (h : House) (l : List Int) : (caskIn h l).p = (l.map (poundsAt h)).sum :=
  snoc_ind (P := fun l => (caskIn h l).p = (l.map (poundsAt h)).sum) rfl (fun l x ih => by rw [caskIn_snoc]; simp only [layAt, layC, ih, List.map_append, List.sum_append]; simp [poundsAt]) l
theorem cask_s_le (h : House) (l : List Int) (m : Int) : (caskIn h l).s ≤ m ↔ 0 ≤ m ∧ ∀ i ∈ l, strongAt h i ≤ m :=
  snoc_ind (P := fun l => (caskIn h l).s ≤ m ↔ 0 ≤ m ∧ ∀ i ∈ l, strongAt h i ≤ m) (by simp [caskIn, c0]) (fun l x ih => by
    rw [caskIn_snoc]
    have e : (layAt h (caskIn h l) x).s = max (caskIn h l).s (strongAt h x) := rfl
    rw [e, Int.max_le, ih]
    simp only [List.mem_append, List.mem_singleton]
    constructor
    · rintro ⟨⟨h1, h2⟩, h3⟩
      exact ⟨h1, fun i hi => hi.elim (h2 i) (fun e => e ▸ h3)⟩
    · rintro ⟨h1, h2⟩
      exact ⟨⟨h1, fun i hi => h2 i (.inl hi)⟩, h2 x (.inr rfl)⟩) l
theorem cask_d_le (h : House) (l : List Int) (m : Int) : (caskIn h l).d ≤ m ↔ 0 ≤ m ∧ ∀ i ∈ l, daysAt h i ≤ m :=
  snoc_ind (P := fun l => (caskIn h l).d ≤ m ↔ 0 ≤ m ∧ ∀ i ∈ l, daysAt h i ≤ m) (by simp [caskIn, c0]) (fun l x ih => by
    rw [caskIn_snoc]
    have e : (layAt h (caskIn h l) x).d = max (caskIn h l).d (daysAt h x) := rfl
    rw [e, Int.max_le, ih]
    simp only [List.mem_append, List.mem_singleton]
    constructor
    · rintro ⟨⟨h1, h2⟩, h3⟩
      exact ⟨h1, fun i hi => hi.elim (h2 i) (fun e => e ▸ h3)⟩
    · rintro ⟨h1, h2⟩
      exact ⟨⟨h1, fun i hi => h2 i (.inl hi)⟩, h2 x (.inr rfl)⟩) l

/-- Nothing of a cask is less. -/
structure Cask.le (a b : Cask) : Prop where
  n : a.n ≤ b.n
  p : a.p ≤ b.p
  s : a.s ≤ b.s
  d : a.d ≤ b.d
theorem saltC_mono {fl : Int} (hf : 0 ≤ fl) {a b : Cask} (h : a.le b) (hn : 0 ≤ a.n) (hp : 0 ≤ a.p) (hs : 0 ≤ a.s) : saltC fl a ≤ saltC fl b := by
  have h1 : a.p * a.s ≤ b.p * b.s := Int.mul_le_mul h.p h.s hs (by have := h.p; omega)
  have h0 : 0 ≤ a.p * a.s := Int.mul_nonneg hp hs
  have h3 := h.n
  unfold saltC
  split
  · split
    · omega
    · omega
  · split
    · omega
    · omega
theorem sum_le_of_sublist {f : Int → Int} {l l' : List Int} (h : l.Sublist l') : (∀ i ∈ l', 0 ≤ f i) → (l.map f).sum ≤ (l'.map f).sum := by
  induction h with
  | slnil => intro _; simp
  | cons a _ ih =>
    intro h
    have := ih fun i hi => h i (by simp [hi])
    have := h a (by simp)
    simp only [List.map_cons, List.sum_cons]; omega
  | cons_cons a _ ih =>
    intro h
    have := ih fun i hi => h i (by simp [hi])
    simp only [List.map_cons, List.sum_cons]; omega
theorem pounds_ok {h : House} (hv : HOK h) {i : Int} (hi : 0 ≤ i ∧ i < h.ps.length) : 0 ≤ poundsAt h i ∧ poundsAt h i ≤ 40 := by
  obtain ⟨kk, -, -, -, hp, -⟩ := hv.part (k := i.toNat) (by omega)
  exact hp
theorem cask_le_of_sublist {h : House} (hv : HOK h) {l l' : List Int} (hs : l.Sublist l') (hp : PartsOK h l') : (caskIn h l).le (caskIn h l') := by
  refine ⟨?_, ?_, ?_, ?_⟩
  · rw [cask_n, cask_n]; have := hs.length_le; omega
  · rw [cask_p, cask_p]; exact sum_le_of_sublist hs fun i hi => (pounds_ok hv (hp i hi)).1
  · rw [cask_s_le]
    have := (cask_s_le h l' (caskIn h l').s).1 (Int.le_refl _)
    exact ⟨this.1, fun i hi => this.2 i (hs.subset hi)⟩
  · rw [cask_d_le]
    have := (cask_d_le h l' (caskIn h l').d).1 (Int.le_refl _)
    exact ⟨this.1, fun i hi => this.2 i (hs.subset hi)⟩
theorem PartsOK.sub {h : House} {l l' : List Int} (hp : PartsOK h l') (hs : l.Sublist l') : PartsOK h l := fun i hi => hp i (hs.subset hi)
theorem salt_le_of_sublist {h : House} (hv : HOK h) {l l' : List Int} (hs : l.Sublist l') (hp : PartsOK h l') : saltC h.fl (caskIn h l) ≤ saltC h.fl (caskIn h l') := by
  have hu := caskIn_upto hv l (hp.sub hs)
  exact saltC_mono hv.f0 (cask_le_of_sublist hv hs hp) hu.n0 hu.p0 hu.s0
theorem need_le_of_sublist {h : House} (hv : HOK h) {l l' : List Int} (hs : l.Sublist l') (hp : PartsOK h l') : needC h l ≤ needC h l' := by
  have h1 := salt_le_of_sublist hv hs hp
  have h2 := (cask_le_of_sublist hv hs hp).p
  unfold needC; omega
theorem inOf_sub_app (a b : List Int) (x : Int) : (inOf a x).Sublist (inOf (a ++ b) x) := by
  refine snoc_ind (P := fun b => (inOf a x).Sublist (inOf (a ++ b) x)) (by simp) (fun l y ih => ?_) b
  rw [← List.append_assoc, inOf_snoc]
  split
  · exact ih.trans (List.sublist_append_left _ _)
  · exact ih
/-- A list that begins with one that does not fit does not fit. -/
theorem fitsR_pre {h : House} (hv : HOK h) {a b : List Int} (hl : (a ++ b).length ≤ h.ps.length) (hf : fitsR h (a ++ b) = true) : fitsR h a = true := by
  rw [fitsR_true] at hf ⊢
  intro x hx
  exact Int.le_trans (need_le_of_sublist hv (inOf_sub_app a b x) (inTo_parts hl)) (hf x hx)

/-- What the specification's lists returns. -/
def listsR (h : House) (lo : Int) : Nat → List Int → List (List Int)
  | 0, f => if fitsR h f then [f] else []
  | n + 1, f => if fitsR h f then (numsFrom lo h.bs.length).flatMap fun b => listsR h lo n (f ++ [b]) else []
theorem listsR_eq {h : House} (hv : HOK h) (lo : Int) : ∀ (n : Nat) (f : List Int), f.length + n ≤ h.ps.length → listsR h lo n f = ((allS lo h.bs.length n).map (f ++ ·)).filter (fitsR h)
  | 0, f, _ => by
    unfold listsR allS
    by_cases hf : fitsR h f = true
    · simp [hf]
    · simp [hf]
  | n + 1, f, hl => by
    unfold listsR allS
    by_cases hf : fitsR h f = true
    · rw [if_pos hf]
      rw [List.map_flatMap, List.filter_flatMap]
      congr 1
      funext b
      rw [listsR_eq hv lo n (f ++ [b]) (by simp; omega), List.map_map]
      congr 1
      apply List.map_congr_left
      intro t _
      simp
    · rw [if_neg hf]
      symm
      rw [List.filter_eq_nil_iff]
      intro l hl2 hfl
      obtain ⟨t, ht, rfl⟩ := List.mem_map.1 hl2
      have : t ∈ allS lo h.bs.length (n + 1) := by unfold allS; exact ht
      have hlen := (mem_allS.1 this).1
      exact hf (fitsR_pre hv (by simp [hlen]; omega) hfl)
/-- All lists that fit. -/
def fitting (h : House) (lo : Int) : List (List Int) := (allS lo h.bs.length h.ps.length).filter (fitsR h)
theorem listsR_nil {h : House} (hv : HOK h) (lo : Int) : listsR h lo h.ps.length [] = fitting h lo := by
  rw [listsR_eq hv lo _ _ (by simp)]
  simp [fitting]
end Go.Proofs.Ytgemmmdcpbajoaa
