import Derived.Test.YtgjpllmmpclgaaaM9
namespace Go.Proofs.Ytgjpllmmpclgaaa
open Go.RowKit

/-! Order, in plain words: the places and the boats in another order. -/
theorem perm_of_sub : ∀ (l m : List Nat), l.Nodup → (∀ x ∈ l, x ∈ m) → m.length ≤ l.length → l.Perm m
  | [], m, _, _, hl => by
    have := List.length_eq_zero_iff.1 (Nat.le_zero.1 hl)
    rw [this]
  | x :: l, m, hn, h, hl => by
    rw [List.nodup_cons] at hn
    have hx := h x (by simp)
    have h1 : (m.erase x).length = m.length - 1 := List.length_erase_of_mem hx
    have ih := perm_of_sub l (m.erase x) hn.2 (fun y hy => (List.mem_erase_of_ne (fun e : y = x => hn.1 (by rw [← e]; exact hy))).2 (h y (by simp [hy]))) (by rw [h1]; simp only [List.length_cons] at hl; omega)
    exact (ih.cons x).trans (List.perm_cons_erase hx).symm
theorem sum_perm {l m : List Int} (h : l.Perm m) : l.sum = m.sum := by
  induction h with
  | nil => rfl
  | cons x _ ih => rw [List.sum_cons, List.sum_cons, ih]
  | swap x y l => simp only [List.sum_cons]; omega
  | trans _ _ i1 i2 => exact i1.trans i2
/-- A sum does not heed the order. -/
theorem sum_order {n : Nat} {f : Nat → Nat} (h : ∀ k, k < n → f k < n) (hi : ∀ k m, k < n → m < n → f k = f m → k = m) (F : Nat → Int) : ((List.range n).map fun k => F (f k)).sum = ((List.range n).map F).sum := by
  have hp : ((List.range n).map f).Perm (List.range n) := by
    refine perm_of_sub _ _ ?_ (fun x hx => ?_) (by simp)
    · refine List.pairwise_map.2 ?_
      refine List.Pairwise.imp_of_mem (R := fun a b => a ≠ b) (fun {a b} ha hb hab e => ?_) List.nodup_range
      exact hab (hi a b (List.mem_range.1 ha) (List.mem_range.1 hb) e)
    · obtain ⟨k, hk, rfl⟩ := List.mem_map.1 hx
      exact List.mem_range.2 (h k (List.mem_range.1 hk))
  have := sum_perm (hp.map F)
  rwa [List.map_map] at this
/-- A sea with its places and its boats in another order. -/
structure Renamed (s t : Sea) (f g : Nat → Nat) : Prop where
  wl : t.wl = s.wl
  wh : t.wh = s.wh
  np : t.ps.length = s.ps.length
  nb : t.bs.length = s.bs.length
  fb : ∀ k, k < s.ps.length → f k < s.ps.length
  fi : ∀ k m, k < s.ps.length → m < s.ps.length → f k = f m → k = m
  ps : ∀ k, k < s.ps.length → t.ps[k]? = s.ps[f k]?
  gb : ∀ j, j < s.bs.length → g j < s.bs.length
  gi : ∀ k m, k < s.bs.length → m < s.bs.length → g k = g m → k = m
  bs : ∀ j, j < s.bs.length → t.bs[g j]? = s.bs[j]?
theorem range_map {l : List (Int × Int)} {n : Nat} {F : Nat → Int × Int} (hn : l.length = n) (h : ∀ k, k < n → l[k]? = some (F k)) : l = (List.range n).map F := by
  apply List.ext_getElem?
  intro i
  rw [List.getElem?_map]
  by_cases hi : i < n
  · rw [h i hi, List.getElem?_range hi]; rfl
  · rw [List.getElem?_eq_none (by omega), List.getElem?_eq_none (by simp; omega)]; rfl
theorem getD_at {l : List (Int × Int)} {k : Nat} (h : k < l.length) : l[k]? = some (l.getD k (0, 0)) := by
  rw [List.getD_eq_getElem?_getD, List.getElem?_eq_getElem h]; rfl
theorem Renamed.sum {s t : Sea} {f g : Nat → Nat} (h : Renamed s t f g) : sumL t.ps = sumL s.ps ∧ sumH t.ps = sumH s.ps := by
  have e1 : s.ps = (List.range s.ps.length).map fun k => s.ps.getD k (0, 0) := range_map rfl fun k hk => getD_at hk
  have e2 : t.ps = (List.range s.ps.length).map fun k => s.ps.getD (f k) (0, 0) := range_map h.np fun k hk => (h.ps k hk).trans (getD_at (h.fb k hk))
  have a1 := sum_order h.fb h.fi fun k => (s.ps.getD k (0, 0)).1
  have a2 := sum_order h.fb h.fi fun k => (s.ps.getD k (0, 0)).2
  have b1 : sumL t.ps = ((List.range s.ps.length).map fun k => (s.ps.getD (f k) (0, 0)).1).sum := by rw [e2]; unfold sumL; rw [List.map_map]; rfl
  have b2 : sumH t.ps = ((List.range s.ps.length).map fun k => (s.ps.getD (f k) (0, 0)).2).sum := by rw [e2]; unfold sumH; rw [List.map_map]; rfl
  have c1 : sumL s.ps = ((List.range s.ps.length).map fun k => (s.ps.getD k (0, 0)).1).sum := by
    conv => lhs; rw [e1]
    unfold sumL; rw [List.map_map]; rfl
  have c2 : sumH s.ps = ((List.range s.ps.length).map fun k => (s.ps.getD k (0, 0)).2).sum := by
    conv => lhs; rw [e1]
    unfold sumH; rw [List.map_map]; rfl
  exact ⟨b1.trans (a1.trans c1.symm), b2.trans (a2.trans c2.symm)⟩
theorem Renamed.shares {s t : Sea} {f g : Nat → Nat} (h : Renamed s t f g) {k : Nat} (hk : k < s.ps.length) : shares t k = shares s (f k) := by
  obtain ⟨x, hx⟩ : ∃ x, s.ps[f k]? = some x := ⟨_, List.getElem?_eq_getElem (h.fb k hk)⟩
  rw [shares_at hx, shares_at ((h.ps k hk).trans hx)]
  unfold shareL
  rw [h.sum.1, h.sum.2]
theorem Renamed.need {s t : Sea} {f g : Nat → Nat} (h : Renamed s t f g) {k : Nat} (hk : k < s.ps.length) : needN t k = needN s (f k) := by
  unfold needN; rw [h.wh, h.shares hk]
theorem Renamed.boat {s t : Sea} {f g : Nat → Nat} (h : Renamed s t f g) {j : Nat} (hj : j < s.bs.length) : carryN t (g j) = carryN s j ∧ penceN t (g j) = penceN s j := by
  unfold carryN penceN
  simp only [List.getD, h.bs j hj, and_self]
/-- The same crew, in the other order. -/
def crewO (f g : Nat → Nat) (n : Nat) (d : List Int) : List Int := (List.range n).map fun k => ((g (d.getD (f k) 0).toNat : Nat) : Int)
theorem crewO_at {f g : Nat → Nat} {n : Nat} {d : List Int} {k : Nat} {j : Int} (h : (crewO f g n d)[k]? = some j) : k < n ∧ j = ((g (d.getD (f k) 0).toNat : Nat) : Int) := by
  unfold crewO at h
  rw [List.getElem?_map] at h
  by_cases hk : k < n
  · rw [List.getElem?_range hk] at h
    simp only [Option.map_some, Option.some.injEq] at h
    exact ⟨hk, h.symm⟩
  · rw [List.getElem?_eq_none (by simp; omega)] at h; cases h
theorem crew_at {nb n : Nat} {d : List Int} (h : CrewOf nb n d) {k : Nat} (hk : k < n) : d[k]? = some (d.getD k 0) ∧ 0 ≤ d.getD k 0 ∧ d.getD k 0 < nb := by
  have e : d[k]? = some (d.getD k 0) := by rw [List.getD_eq_getElem?_getD, List.getElem?_eq_getElem (by rw [h.1]; exact hk)]; rfl
  exact ⟨e, h.2.1 _ (List.mem_of_getElem? e)⟩
theorem Renamed.crew {s t : Sea} {f g : Nat → Nat} (h : Renamed s t f g) {d : List Int} (hd : CrewOf s.bs.length s.ps.length d) : CrewOf t.bs.length t.ps.length (crewO f g s.ps.length d) := by
  refine ⟨by unfold crewO; simp [h.np], fun x hx => ?_, ?_⟩
  · obtain ⟨k, hk⟩ := List.mem_iff_getElem?.1 hx
    obtain ⟨h1, rfl⟩ := crewO_at hk
    have h2 := (crew_at hd (h.fb k h1)).2
    have := h.gb (d.getD (f k) 0).toNat (by omega)
    have := h.nb
    omega
  · refine List.pairwise_map.2 ?_
    refine List.Pairwise.imp_of_mem (R := fun a b => a ≠ b) (fun {a b} ha hb hab e => ?_) List.nodup_range
    have ha := List.mem_range.1 ha
    have hb := List.mem_range.1 hb
    have h1 := crew_at hd (h.fb a ha)
    have h2 := crew_at hd (h.fb b hb)
    have e1 := h.gi _ _ (by omega) (by omega) (Int.ofNat_inj.1 e)
    have e2 : d.getD (f a) 0 = d.getD (f b) 0 := by omega
    have e3 : d[f a]? = d[f b]? := by rw [h1.1, h2.1, e2]
    exact hab (h.fi a b ha hb ((List.getElem?_inj (by rw [hd.1]; exact h.fb a ha) hd.2.2).1 e3))
theorem Renamed.lift {s t : Sea} {f g : Nat → Nat} (h : Renamed s t f g) (hS : SOK s) {d : List Int} (hd : CrewOf s.bs.length s.ps.length d) : liftS s d ≤ liftS t (crewO f g s.ps.length d) := by
  refine (lift_le (lift_bd hS hd).2).2 fun k j hj => ?_
  obtain ⟨h1, rfl⟩ := crewO_at hj
  have h2 := crew_at hd (h.fb k h1)
  have h3 := (lift_le (s := s) (c := d) (n := liftS s d) (lift_bd hS hd).2).1 (Int.le_refl _) (f k) _ h2.1
  rw [Int.toNat_natCast, (h.boat (by omega)).1, h.shares h1]
  exact h3
theorem Renamed.most {s t : Sea} {f g : Nat → Nat} (h : Renamed s t f g) (hS : SOK s) : mostS s ≤ mostS t := by
  by_cases h0 : 0 ≤ mostS s
  · obtain ⟨c, hc, he⟩ := most_mem h0
    have := most_ge (h.crew hc)
    have := h.lift hS hc
    omega
  · have := (maxL_ge (liftS t) (crewsR t.bs.length t.ps.length [])).1
    have h1 : -1 ≤ mostS t := this
    have := (maxL_ge (liftS s) (crewsR s.bs.length s.ps.length [])).1
    have h2 : -1 ≤ mostS s := this
    omega
theorem Renamed.safe {s t : Sea} {f g : Nat → Nat} (h : Renamed s t f g) {d : List Int} (hd : CrewOf s.bs.length s.ps.length d) (hs : safeC s d = true) : safeC t (crewO f g s.ps.length d) = true := by
  refine safe_of fun k j hj => ?_
  obtain ⟨h1, rfl⟩ := crewO_at hj
  have h2 := crew_at hd (h.fb k h1)
  have h3 := safe_at hs h2.1
  rw [Int.toNat_natCast, (h.boat (by omega)).1, h.need h1]
  exact h3
theorem Renamed.cost {s t : Sea} {f g : Nat → Nat} (h : Renamed s t f g) {d : List Int} (hd : CrewOf s.bs.length s.ps.length d) : costS t (crewO f g s.ps.length d) = costS s d := by
  have e1 : d = (List.range s.ps.length).map fun k => d.getD k 0 := by
    apply List.ext_getElem?
    intro i
    rw [List.getElem?_map]
    by_cases hi : i < s.ps.length
    · rw [(crew_at hd hi).1, List.getElem?_range hi]; rfl
    · rw [List.getElem?_eq_none (by rw [hd.1]; omega), List.getElem?_eq_none (by simp; omega)]; rfl
  have a := sum_order h.fb h.fi fun k => penceN s (d.getD k 0).toNat
  have b : costS s d = ((List.range s.ps.length).map fun k => penceN s (d.getD k 0).toNat).sum := by
    unfold costS costTo
    rw [List.take_length]
    conv => lhs; rw [e1]
    rw [List.map_map]; rfl
  rw [b, ← a]
  unfold costS costTo crewO
  rw [List.take_length, List.map_map]
  congr 1
  apply List.map_congr_left
  intro k hk
  have h1 := (crew_at hd (h.fb k (List.mem_range.1 hk))).2
  simp only [Function.comp_apply, Int.toNat_natCast]
  exact (h.boat (by omega)).2
theorem Renamed.cheap {s t : Sea} {f g : Nat → Nat} (h : Renamed s t f g) (hT : SOK t) : cheapW t ≤ cheapW s := by
  cases hc : cheapS s with
  | none =>
    have e : cheapW s = 10000 := by unfold cheapW; rw [hc]
    rw [e]
    cases ht : cheapS t with
    | none => unfold cheapW; rw [ht]; exact Int.le_refl _
    | some cn => obtain ⟨c, n⟩ := cn; have := cheap_bd hT ht; unfold cheapW; rw [ht]; simp only; omega
  | some cn =>
    obtain ⟨c, n⟩ := cn
    obtain ⟨h1, h2, h3, _⟩ := cheap_is hc
    have e : cheapW s = n := by unfold cheapW; rw [hc]
    cases ht : cheapS t with
    | none =>
      have := cheap_none.1 ht _ (h.crew h1)
      rw [h.safe h1 h2] at this; cases this
    | some dm =>
      obtain ⟨d, m⟩ := dm
      have h5 := ((cheap_is ht).2.2.2 _ (h.crew h1) (h.safe h1 h2)).1
      rw [h.cost h1, ← h3] at h5
      have e2 : cheapW t = m := by unfold cheapW; rw [ht]
      omega
end Go.Proofs.Ytgjpllmmpclgaaa
