import Derived.Test.YtgjpllmmpclgaaaM6
namespace Go.Proofs.Ytgjpllmmpclgaaa
open Go.RowKit

/-! More, in plain words: more boats, stronger boats, lesser spans. -/
/-- Another sea has the same places, and all boats, none of which can carry less or costs otherwise. -/
structure Better (s t : Sea) : Prop where
  wl : t.wl = s.wl
  wh : t.wh = s.wh
  ps : t.ps = s.ps
  nb : s.bs.length ≤ t.bs.length
  b : ∀ j, j < s.bs.length → carryN s j ≤ carryN t j ∧ penceN t j = penceN s j
theorem shares_same {s t : Sea} (h : t.ps = s.ps) : shares t = shares s := by unfold shares sharesTo; rw [h]
theorem holds_mono {a b p : Int} (h : a ≤ b) (hp : 0 ≤ p) : holdsN a p ≤ holdsN b p := by
  unfold holdsN
  split
  · exact Int.le_refl _
  · have : 12 * a / p ≤ 12 * b / p := Int.ediv_le_ediv (by omega) (by omega)
    omega
theorem Better.crew {s t : Sea} (h : Better s t) {c : List Int} (hc : CrewOf s.bs.length s.ps.length c) : CrewOf t.bs.length t.ps.length c := by
  have := h.nb
  exact ⟨by rw [h.ps]; exact hc.1, fun x hx => by have := hc.2.1 x hx; omega, hc.2.2⟩
theorem Better.lift {s t : Sea} (h : Better s t) (hS : SOK s) {c : List Int} (hc : CrewOf s.bs.length s.ps.length c) : liftS s c ≤ liftS t c := by
  refine (lift_le (lift_bd hS hc).2).2 fun k j hj => ?_
  have h1 := (lift_le (s := s) (c := c) (n := liftS s c) (lift_bd hS hc).2).1 (Int.le_refl _) k j hj
  have hj0 := hc.2.1 j (List.mem_of_getElem? hj)
  have hkl := (List.getElem?_eq_some_iff.1 hj).1
  have hb := shares_bd hS (show k < s.ps.length by rw [← hc.1]; exact hkl)
  have h2 := holds_mono (h.b j.toNat (by omega)).1 hb.1
  rw [shares_same h.ps]
  omega
theorem Better.most {s t : Sea} (h : Better s t) (hS : SOK s) : mostS s ≤ mostS t := by
  by_cases h0 : 0 ≤ mostS s
  · obtain ⟨c, hc, he⟩ := most_mem h0
    have := most_ge (h.crew hc)
    have := h.lift hS hc
    omega
  · have := (maxL_ge (liftS t) (crewsR t.bs.length t.ps.length [])).1
    have h1 : -1 ≤ mostS t := this
    have := (maxL_ge (liftS s) (crewsR s.bs.length s.ps.length [])).1
    have h2 : -1 ≤ mostS s := this
    omega
theorem Better.safe {s t : Sea} (h : Better s t) {c : List Int} (hc : CrewOf s.bs.length s.ps.length c) (hs : safeC s c = true) : safeC t c = true := by
  refine safe_of fun k j hj => ?_
  have h1 := safe_at hs hj
  have hj0 := hc.2.1 j (List.mem_of_getElem? hj)
  have h2 := (h.b j.toNat (by omega)).1
  have h3 : needN t k = needN s k := by unfold needN; rw [h.wh, shares_same h.ps]
  omega
theorem Better.cost {s t : Sea} (h : Better s t) {c : List Int} (hc : CrewOf s.bs.length s.ps.length c) : costS t c = costS s c := by
  unfold costS costTo
  congr 1
  apply List.map_congr_left
  intro x hx
  have hx0 := hc.2.1 x (List.mem_of_mem_take hx)
  exact (h.b x.toNat (by omega)).2
theorem Better.cheap {s t : Sea} (h : Better s t) (hS : SOK s) (hT : SOK t) : cheapW t ≤ cheapW s := by
  cases hc : cheapS s with
  | none =>
    have e : cheapW s = 10000 := by unfold cheapW; rw [hc]
    rw [e]
    cases ht : cheapS t with
    | none => unfold cheapW; rw [ht]; exact Int.le_refl _
    | some cn => obtain ⟨c, n⟩ := cn; have := cheap_bd hT ht; unfold cheapW; rw [ht]; simp only; omega
  | some cn =>
    obtain ⟨c, n⟩ := cn
    obtain ⟨h1, h2, h3, _⟩ := cheap_is hc
    have e : cheapW s = n := by unfold cheapW; rw [hc]
    cases ht : cheapS t with
    | none =>
      have := cheap_none.1 ht c (h.crew h1)
      rw [h.safe h1 h2] at this; cases this
    | some dm =>
      obtain ⟨d, m⟩ := dm
      have h5 := ((cheap_is ht).2.2.2 c (h.crew h1) (h.safe h1 h2)).1
      rw [h.cost h1, ← h3] at h5
      have e2 : cheapW t = m := by unfold cheapW; rw [ht]
      omega
/-- With one boat more. -/
theorem better_more (s : Sea) (b : Int × Int) : Better s { s with bs := s.bs ++ [b] } :=
  ⟨rfl, rfl, rfl, by simp, fun j hj => by
    unfold carryN penceN
    simp only [List.getD]
    rw [List.getElem?_append_left hj]
    exact ⟨Int.le_refl _, rfl⟩⟩
/-- With a boat that can carry one pound more. -/
def strongS (s : Sea) (i : Nat) : Sea := { s with bs := s.bs.set i ((s.bs.getD i (0, 0)).1 + 1, (s.bs.getD i (0, 0)).2) }
theorem better_strong (s : Sea) (i : Nat) : Better s (strongS s i) :=
  ⟨rfl, rfl, rfl, by simp [strongS], fun j hj => by
    unfold carryN penceN strongS
    simp only [List.getD]
    by_cases e : i = j
    · subst e
      rw [List.getElem?_set_self hj, List.getElem?_eq_getElem hj]
      simp only [Option.getD_some]
      exact ⟨by omega, by first | rfl | trivial⟩
    · rw [List.getElem?_set_ne e]
      exact ⟨Int.le_refl _, rfl⟩⟩
/-- Lesser spans. -/
theorem sum_less : ∀ {l m : List (Int × Int)}, l.length = m.length → (∀ (i : Nat) (x y : Int × Int), l[i]? = some x → m[i]? = some y → x.1 ≤ y.1) → sumL l ≤ sumL m ∧ ∀ (i : Nat) (x y : Int × Int), l[i]? = some x → m[i]? = some y → sumL l - x.1 ≤ sumL m - y.1
  | [], [], _, _ => ⟨Int.le_refl _, fun i x y h => by simp at h⟩
  | a :: l, b :: m, hl, h => by
    obtain ⟨i1, i2⟩ := sum_less (l := l) (m := m) (by simpa using hl) fun i x y hx hy => h (i + 1) x y (by simpa using hx) (by simpa using hy)
    have h0 := h 0 a b rfl rfl
    rw [sumL_cons, sumL_cons]
    refine ⟨by omega, fun i x y hx hy => ?_⟩
    cases i with
    | zero => simp at hx hy; subst hx hy; omega
    | succ i => have := i2 i x y (by simpa using hx) (by simpa using hy); omega
theorem needs_less {s t : Sea} (hS : SOK s) (hT : SOK t) (hl : t.ps.length = s.ps.length) (hw : t.wh ≤ s.wh) (h : ∀ (i : Nat) (x y : Int × Int), s.ps[i]? = some x → t.ps[i]? = some y → x.1 ≤ y.1 ∧ y.2 ≤ x.2) {i : Nat} (hi : i < s.ps.length) : needN t i ≤ needN s i := by
  obtain ⟨x, hx⟩ : ∃ x, s.ps[i]? = some x := ⟨_, List.getElem?_eq_getElem hi⟩
  obtain ⟨y, hy⟩ : ∃ y, t.ps[i]? = some y := ⟨_, List.getElem?_eq_getElem (by omega)⟩
  have h1 := h i x y hx hy
  have h2 := (sum_less hl.symm fun i x y hx hy => (h i x y hx hy).1).2 i x y hx hy
  have h3 : (shares t i).2 ≤ (shares s i).2 := by
    rw [shares_at hx, shares_at hy]
    unfold shareL
    simp only
    omega
  have hb := shares_bd hT (show i < t.ps.length by omega)
  have hw0 : 0 ≤ t.wh := by have := hT.w0; have := hT.w1; omega
  have a1 : t.wh * (shares t i).2 ≤ s.wh * (shares t i).2 := Int.mul_le_mul_of_nonneg_right hw hb.1
  have a2 : s.wh * (shares t i).2 ≤ s.wh * (shares s i).2 := Int.mul_le_mul_of_nonneg_left h3 (by omega)
  unfold needN
  omega
end Go.Proofs.Ytgjpllmmpclgaaa
