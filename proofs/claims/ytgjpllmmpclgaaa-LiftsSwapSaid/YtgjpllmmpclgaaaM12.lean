import Derived.Test.YtgjpllmmpclgaaaF2
namespace Go.Proofs.Ytgjpllmmpclgaaa
open Go.RowKit

/-! Plain law: how many crews and partings there are; the shares as the specification finds them. -/
theorem crewsTo_bd {nb n M : Nat} {f : List Int} (hM : ∀ g, (crewsR nb n g).length ≤ M) : ∀ k, (crewsTo nb n f k).length ≤ M * k
  | 0 => by simp [crewsTo_zero]
  | k + 1 => by
    have := crewsTo_bd (f := f) hM k
    rw [crewsTo_succ, List.length_append, Nat.mul_succ]
    split
    · simp; omega
    · have := hM (f ++ [(k : Int)]); omega
theorem crewsR_bound {nb : Nat} (h : nb ≤ 6) : ∀ (n : Nat) (f : List Int), (crewsR nb n f).length ≤ 6 ^ n
  | 0, f => by simp [crewsR]
  | n + 1, f => by
    rw [← crewsTo_all]
    refine Nat.le_trans (crewsTo_bd (crewsR_bound h n) nb) ?_
    rw [Nat.pow_succ]
    exact Nat.mul_le_mul_left _ h
theorem crewsR_small {nb n : Nat} (h : nb ≤ 6) (hn : n ≤ 4) (f : List Int) : (crewsR nb n f).length ≤ 1296 :=
  Nat.le_trans (crewsR_bound h n f) (Nat.le_trans (Nat.pow_le_pow_right (by decide) hn) (by decide))
theorem crewsTo_small {nb n : Nat} (h : nb ≤ 6) (hn : n ≤ 4) (f : List Int) (k : Nat) (hk : k ≤ 6) : (crewsTo nb n f k).length ≤ 7776 :=
  Nat.le_trans (crewsTo_bd (M := 1296) (fun g => crewsR_small h hn g) k) (by omega)
/-- The partings whose next part is one of the first k of its span. -/
def partsTo (ps : List (Int × Int)) (t : Int) (f : List Int) (x : Int × Int) (k : Nat) : List (List Int) := (List.range k).flatMap fun j : Nat => partsF ps t (f ++ [x.1 + (j : Int)])
theorem partsTo_zero (ps : List (Int × Int)) (t : Int) (f : List Int) (x : Int × Int) : partsTo ps t f x 0 = [] := rfl
theorem partsTo_succ (ps : List (Int × Int)) (t : Int) (f : List Int) (x : Int × Int) (k : Nat) : partsTo ps t f x (k + 1) = partsTo ps t f x k ++ partsF ps t (f ++ [x.1 + (k : Int)]) := by
  unfold partsTo; rw [List.range_succ, List.flatMap_append]; simp
theorem partsTo_all {ps : List (Int × Int)} {t : Int} {f : List Int} {x : Int × Int} (hx : ps[f.length]? = some x) {k : Nat} (hk : (k : Int) = x.2 + 1 - x.1 ∨ (k = 0 ∧ x.2 + 1 - x.1 ≤ 0)) : partsTo ps t f x k = partsF ps t f := by
  obtain rfl : k = (x.2 + 1 - x.1).toNat := by omega
  rw [partsF_next hx]
  unfold partsTo spanN
  rw [List.flatMap_map]
theorem flatMap_bd {α β : Type} {f : α → List β} {M : Nat} : ∀ (l : List α), (∀ x ∈ l, (f x).length ≤ M) → (l.flatMap f).length ≤ M * l.length
  | [], _ => by simp
  | x :: l, h => by
    have := flatMap_bd l fun y hy => h y (by simp [hy])
    have := h x (by simp)
    rw [List.flatMap_cons, List.length_append, List.length_cons, Nat.mul_succ]
    omega
theorem partsR_bound : ∀ (l : List (Int × Int)) (t : Int), (∀ x ∈ l, x.2 + 1 - x.1 ≤ 13) → (partsR l t).length ≤ 13 ^ l.length
  | [], t, _ => by unfold partsR; split <;> simp
  | x :: l, t, h => by
    have hx := h x (by simp)
    unfold partsR
    refine Nat.le_trans (flatMap_bd (M := 13 ^ l.length) _ fun v _ => ?_) ?_
    · rw [List.length_map]; exact partsR_bound l _ fun y hy => h y (by simp [hy])
    · rw [List.length_cons, Nat.pow_succ]
      refine Nat.mul_le_mul_left _ ?_
      simp [spanN]; omega
theorem partsF_small {ps : List (Int × Int)} (hl : ps.length ≤ 4) (h : ∀ x ∈ ps, x.2 + 1 - x.1 ≤ 13) (t : Int) (f : List Int) : (partsF ps t f).length ≤ 28561 := by
  unfold partsF
  rw [List.length_map]
  refine Nat.le_trans (partsR_bound _ _ fun x hx => h x (List.mem_of_mem_drop hx)) ?_
  exact Nat.le_trans (Nat.pow_le_pow_right (by decide) (by rw [List.length_drop]; omega)) (by decide : 13 ^ 4 ≤ 28561)
theorem partsTo_small {ps : List (Int × Int)} (hl : ps.length ≤ 4) (h : ∀ x ∈ ps, x.2 + 1 - x.1 ≤ 13) (t : Int) (f : List Int) (x : Int × Int) (k : Nat) (hk : k ≤ 13) : (partsTo ps t f x k).length ≤ 371293 := by
  unfold partsTo
  refine Nat.le_trans (flatMap_bd (M := 28561) _ fun v _ => partsF_small hl h t _) ?_
  rw [List.length_range]; omega
theorem inside_snoc : ∀ {ps : List (Int × Int)} {f : List Int} {x : Int × Int} {v : Int}, (∀ (k : Nat) (u : Int) (y : Int × Int), f[k]? = some u → ps[k]? = some y → y.1 ≤ u ∧ u ≤ y.2) → ps[f.length]? = some x → x.1 ≤ v → v ≤ x.2 →
    ∀ (k : Nat) (u : Int) (y : Int × Int), (f ++ [v])[k]? = some u → ps[k]? = some y → y.1 ≤ u ∧ u ≤ y.2 := fun {ps f x v} h hx h1 h2 k u y hu hy => by
  by_cases hk : k < f.length
  · rw [List.getElem?_append_left hk] at hu
    exact h k u y hu hy
  · have hlt := (List.getElem?_eq_some_iff.1 hu).1
    rw [List.length_append, List.length_singleton] at hlt
    obtain rfl : k = f.length := by omega
    rw [List.getElem?_append_right (Nat.le_refl _), Nat.sub_self] at hu
    simp at hu
    subst hu
    rw [hx] at hy
    cases hy
    exact ⟨h1, h2⟩
theorem partsB_end {s : Sea} {f : List Int} (hl : f.length = s.ps.length) (h : ∀ (k : Nat) (u : Int) (y : Int × Int), f[k]? = some u → s.ps[k]? = some y → y.1 ≤ u ∧ u ≤ y.2) : partsF s.ps 12 f = if partsB s f = true then [f] else [] := by
  rw [partsF_end hl]
  unfold partsB
  rw [(inside_iff hl).2 h]
  by_cases e : f.sum = 12
  · rw [if_pos e, if_pos (by simp [hl, e])]
  · rw [if_neg e, if_neg (by simp [e])]
/-- What the specification's ShareOf knows behind k partings. -/
def shStep (i : Nat) (a : Int × Int) (p : List Int) : Int × Int := (min a.1 (p.getD i 0), max a.2 (p.getD i 0))
def shFrom (l : List (List Int)) (i : Nat) : Int × Int := ((l.getD 0 []).getD i 0, (l.getD 0 []).getD i 0)
def shTo (l : List (List Int)) (i : Nat) (k : Nat) : Int × Int := (l.take k).foldl (shStep i) (shFrom l i)
theorem shTo_zero (l : List (List Int)) (i : Nat) : shTo l i 0 = shFrom l i := rfl
theorem shTo_next {l : List (List Int)} {i k : Nat} {p : List Int} (h : l[k]? = some p) : shTo l i (k + 1) = shStep i (shTo l i k) p := by
  unfold shTo; rw [List.take_add_one, h, List.foldl_append]; rfl
theorem shTo_inv {l : List (List Int)} {i : Nat} {p0 : List Int} (h0 : l[0]? = some p0) : ∀ k, k ≤ l.length →
    (∃ p ∈ l, (shTo l i k).1 = p.getD i 0) ∧ (∃ p ∈ l, (shTo l i k).2 = p.getD i 0) ∧ ∀ (j : Nat) (p : List Int), j < k → l[j]? = some p → (shTo l i k).1 ≤ p.getD i 0 ∧ p.getD i 0 ≤ (shTo l i k).2
  | 0, _ => by
    have hm := List.mem_of_getElem? h0
    have e : shTo l i 0 = (p0.getD i 0, p0.getD i 0) := by rw [shTo_zero]; unfold shFrom; rw [List.getD_eq_getElem?_getD (l := l), h0]; rfl
    rw [e]
    exact ⟨⟨p0, hm, rfl⟩, ⟨p0, hm, rfl⟩, fun j p hj => absurd hj (by omega)⟩
  | k + 1, hk => by
    obtain ⟨⟨a, ha, ea⟩, ⟨b, hb, eb⟩, hall⟩ := shTo_inv (i := i) h0 k (by omega)
    have hq : l[k]? = some l[k] := List.getElem?_eq_getElem (by omega)
    have hm := List.mem_of_getElem? hq
    rw [shTo_next hq]
    unfold shStep
    simp only
    refine ⟨?_, ?_, fun j p hj hp => ?_⟩
    · by_cases h : (shTo l i k).1 ≤ (l[k]).getD i 0
      · exact ⟨a, ha, by rw [← ea]; omega⟩
      · exact ⟨l[k], hm, by omega⟩
    · by_cases h : (l[k]).getD i 0 ≤ (shTo l i k).2
      · exact ⟨b, hb, by rw [← eb]; omega⟩
      · exact ⟨l[k], hm, by omega⟩
    · by_cases h : j < k
      · have := hall j p h hp; omega
      · obtain rfl : j = k := by omega
        rw [hq] at hp; cases hp
        omega
theorem shTo_all {s : Sea} (hS : SOK s) {i : Nat} {x : Int × Int} (hx : s.ps[i]? = some x) : shTo (partsR s.ps 12) i (partsR s.ps 12).length = shareL s.ps 12 x := by
  have hsp : ∀ y ∈ s.ps, y.1 ≤ y.2 := fun y hy => (hS.p y hy).2.1
  obtain ⟨p, hp⟩ := fill s.ps 12 hsp hS.lo hS.hi
  have hpm := mem_partsR.2 hp
  obtain ⟨p0, h0⟩ : ∃ p0, (partsR s.ps 12)[0]? = some p0 := ⟨_, List.getElem?_eq_getElem (List.length_pos_of_mem hpm)⟩
  have hlt := (List.getElem?_eq_some_iff.1 hx).1
  have hval : ∀ q ∈ partsR s.ps 12, ∃ v, q[i]? = some v ∧ q.getD i 0 = v := fun q hq => by
    have := (mem_partsR.1 hq).len
    exact ⟨q[i], List.getElem?_eq_getElem (by omega), by rw [List.getD_eq_getElem?_getD, List.getElem?_eq_getElem (by omega)]; rfl⟩
  have hin : ∀ q ∈ partsR s.ps 12, (shareL s.ps 12 x).1 ≤ q.getD i 0 ∧ q.getD i 0 ≤ (shareL s.ps 12 x).2 := fun q hq => by
    obtain ⟨v, h1, h2⟩ := hval q hq
    rw [h2]
    exact share_in i x v (mem_partsR.1 hq) hx h1
  obtain ⟨⟨a, ha, ea⟩, ⟨b, hb, eb⟩, hall⟩ := shTo_inv (i := i) h0 _ (Nat.le_refl _)
  have hev : ∀ q ∈ partsR s.ps 12, (shTo (partsR s.ps 12) i (partsR s.ps 12).length).1 ≤ q.getD i 0 ∧ q.getD i 0 ≤ (shTo (partsR s.ps 12) i (partsR s.ps 12).length).2 := fun q hq => by
    obtain ⟨j, hj⟩ := List.getElem?_of_mem hq
    exact hall j q (List.getElem?_eq_some_iff.1 hj).1 hj
  have hsh : (shareL s.ps 12 x).1 ≤ (shareL s.ps 12 x).2 := by
    have := hin p hpm; omega
  obtain ⟨q1, hq1, hv1⟩ := share_all s.ps 12 i x _ hsp hx (Int.le_refl _) hsh
  obtain ⟨q2, hq2, hv2⟩ := share_all s.ps 12 i x _ hsp hx hsh (Int.le_refl _)
  have m1 := mem_partsR.2 hq1
  have m2 := mem_partsR.2 hq2
  obtain ⟨v1, g1, e1⟩ := hval q1 m1
  obtain ⟨v2, g2, e2⟩ := hval q2 m2
  rw [hv1] at g1
  rw [hv2] at g2
  cases g1
  cases g2
  have k1 := hev q1 m1
  have k2 := hev q2 m2
  have k3 := hin a ha
  have k4 := hin b hb
  exact Prod.ext (by omega) (by omega)
theorem needN_step {s : Sea} {k : Nat} {n : Nat} : 12 * (n : Int) < s.wh * (shares s k).2 ↔ (n : Int) < needN s k := by
  unfold needN
  omega
end Go.Proofs.Ytgjpllmmpclgaaa
