import Derived.Test.YtgjpllmmpclgaaaM5
namespace Go.Proofs.Ytgjpllmmpclgaaa
open Go.RowKit

/-! The crew, in plain words: there is one just if no places are short of boats. -/
theorem sub_len : ∀ (l m : List Nat), l.Nodup → (∀ x ∈ l, x ∈ m) → l.length ≤ m.length
  | [], _, _, _ => Nat.zero_le _
  | x :: l, m, hn, h => by
    rw [List.nodup_cons] at hn
    have hx := h x (by simp)
    have ih := sub_len l (m.erase x) hn.2 fun y hy => (List.mem_erase_of_ne (show y ≠ x from fun e => hn.1 (by rw [← e]; exact hy))).2 (h y (by simp [hy]))
    rw [List.length_erase_of_mem hx] at ih
    have := List.length_pos_of_mem hx
    rw [List.length_cons]; omega
theorem unused {able used : List Nat} (hn : able.Nodup) (h : used.length < able.length) : ∃ x ∈ able, ¬ x ∈ used := by
  refine Classical.byContradiction fun hc => ?_
  have : ∀ x ∈ able, x ∈ used := fun x hx => Classical.byContradiction fun hu => hc ⟨x, hx, hu⟩
  have := sub_len able used hn this
  omega
/-- The boats that can carry so much, by number. -/
def ableL (s : Sea) (n : Int) : List Nat := (List.range s.bs.length).filter fun j => decide (n ≤ carryN s j)
theorem ableL_len (s : Sea) (n : Int) : (ableL s n).length = canC s n := by
  have e : s.bs = (List.range s.bs.length).map fun j => s.bs.getD j (0, 0) := by
    apply List.ext_getElem?
    intro i
    rw [List.getElem?_map]
    by_cases h : i < s.bs.length
    · rw [List.getElem?_range h, List.getElem?_eq_getElem h]; simp [List.getD, List.getElem?_eq_getElem h]
    · rw [List.getElem?_eq_none (by omega), List.getElem?_eq_none (by simp; omega)]; rfl
  unfold canC ableL
  conv => rhs; rw [e]
  rw [List.filter_map, List.length_map]
  rfl
theorem mem_able {s : Sea} {n : Int} {j : Nat} : j ∈ ableL s n ↔ j < s.bs.length ∧ n ≤ carryN s j := by
  unfold ableL
  rw [List.mem_filter, List.mem_range, decide_eq_true_eq]
theorem able_nodup (s : Sea) (n : Int) : (ableL s n).Nodup := (List.nodup_range).filter _
/-- There are enough boats for some places. -/
def Hall (s : Sea) : Prop := ∀ p : List Nat, p ≠ [] → p.Sublist (List.range s.ps.length) → p.length ≤ canC s (leastL (needsL s) (p.map fun i : Nat => (i : Int)))
theorem least_min {s : Sea} {p : List Nat} (hp : ∀ i ∈ p, i < s.ps.length) {i : Nat} (hi : i ∈ p) (hm : ∀ k ∈ p, needN s i ≤ needN s k) : leastL (needsL s) (p.map fun i : Nat => (i : Int)) = needN s i := by
  have hne : (p.map fun i : Nat => (i : Int)) ≠ [] := by
    intro h
    rw [List.map_eq_nil_iff] at h
    rw [h] at hi; cases hi
  have hin : ∀ x ∈ (p.map fun i : Nat => (i : Int)), 0 ≤ x ∧ x < s.ps.length := fun x hx => by
    obtain ⟨k, hk, rfl⟩ := List.mem_map.1 hx
    have := hp k hk
    omega
  have h1 := (least_le hne hin (needN s i)).2 ⟨(i : Int), List.mem_map.2 ⟨i, hi, rfl⟩, by simp⟩
  obtain ⟨x, hx, h2⟩ := (least_le hne hin _).1 (Int.le_refl _)
  obtain ⟨k, hk, rfl⟩ := List.mem_map.1 hx
  have := hm k hk
  simp at h2
  omega
theorem min_place {s : Sea} : ∀ {p : List Nat}, p ≠ [] → ∃ i ∈ p, ∀ k ∈ p, needN s i ≤ needN s k
  | [i], _ => ⟨i, by simp, fun k hk => by simp at hk; rw [hk]; exact Int.le_refl _⟩
  | i :: j :: p, _ => by
    obtain ⟨m, hm, h⟩ := min_place (s := s) (p := j :: p) (by simp)
    by_cases hle : needN s i ≤ needN s m
    · refine ⟨i, by simp, fun k hk => ?_⟩
      rcases List.mem_cons.1 hk with rfl | hk
      · exact Int.le_refl _
      · have := h k hk; omega
    · refine ⟨m, by simp [List.mem_cons.1 hm], fun k hk => ?_⟩
      rcases List.mem_cons.1 hk with rfl | hk
      · omega
      · exact h k hk
theorem hall_assign {s : Sea} (h : Hall s) : ∀ (n : Nat) (p : List Nat), p.length = n → p.Sublist (List.range s.ps.length) → ∃ g : Nat → Nat, (∀ i ∈ p, g i < s.bs.length ∧ needN s i ≤ carryN s (g i)) ∧ (p.map g).Nodup
  | 0, p, hl, _ => by
    obtain rfl := List.length_eq_zero_iff.1 hl
    exact ⟨fun _ => 0, fun i hi => by simp at hi, by simp⟩
  | n + 1, p, hl, hs => by
    have hne : p ≠ [] := by intro e; rw [e] at hl; simp at hl
    obtain ⟨i, hi, hmin⟩ := min_place (s := s) hne
    have hnd : p.Nodup := List.nodup_range.sublist hs
    obtain ⟨g, hg, hgn⟩ := hall_assign h n (p.erase i) (by rw [List.length_erase_of_mem hi]; omega) (List.erase_sublist.trans hs)
    have hcan := h p hne hs
    rw [least_min (fun k hk => List.mem_range.1 (hs.subset hk)) hi hmin, ← ableL_len] at hcan
    obtain ⟨x, hx, hxu⟩ := unused (used := (p.erase i).map g) (able_nodup s (needN s i)) (by rw [List.length_map, List.length_erase_of_mem hi]; have := List.length_pos_of_mem hi; omega)
    obtain ⟨hx1, hx2⟩ := mem_able.1 hx
    have hie : ¬ i ∈ p.erase i := fun hm => (hnd.mem_erase_iff.1 hm).1 rfl
    refine ⟨fun k => if k = i then x else g k, fun k hk => ?_, ?_⟩
    · by_cases e : k = i
      · simp only [e, if_true]; exact ⟨hx1, hx2⟩
      · simp only [e, if_false]; exact hg k ((List.mem_erase_of_ne e).2 hk)
    · have hperm := List.perm_cons_erase hi
      refine (List.Perm.nodup_iff (hperm.map _)).2 ?_
      rw [List.map_cons, if_pos rfl, List.nodup_cons]
      have hm : (p.erase i).map (fun k => if k = i then x else g k) = (p.erase i).map g := List.map_congr_left fun k hk => by
        have hne : ¬ k = i := fun e => by subst e; exact hie hk
        rw [if_neg hne]
      rw [hm]
      exact ⟨hxu, hgn⟩
theorem crew_of_hall {s : Sea} (h : Hall s) : ∃ c, CrewOf s.bs.length s.ps.length c ∧ safeC s c = true := by
  obtain ⟨g, hg, hn⟩ := hall_assign h s.ps.length (List.range s.ps.length) (by simp) (List.Sublist.refl _)
  refine ⟨(List.range s.ps.length).map fun i => ((g i : Nat) : Int), ⟨by simp, fun x hx => ?_, ?_⟩, safe_of fun k j hj => ?_⟩
  · obtain ⟨i, hi, rfl⟩ := List.mem_map.1 hx
    have := (hg i hi).1
    omega
  · have : ((List.range s.ps.length).map fun i => ((g i : Nat) : Int)) = ((List.range s.ps.length).map g).map fun j : Nat => (j : Int) := by rw [List.map_map]; rfl
    rw [this]
    exact List.Pairwise.map _ (fun a b hab => by omega) hn
  · rw [List.getElem?_map] at hj
    cases hr : (List.range s.ps.length)[k]? with
    | none => rw [hr] at hj; simp at hj
    | some i =>
      rw [hr] at hj
      simp at hj
      subst hj
      have hi := List.mem_of_getElem? hr
      have : i = k := by
        have hk := (List.getElem?_eq_some_iff.1 hr).1
        rw [List.length_range] at hk
        rw [List.getElem?_range hk] at hr
        exact (Option.some.inj hr).symm
      subst this
      simpa using (hg i hi).2
theorem hall_of_short {s : Sea} (hS : SOK s) (h : shortS s = []) : Hall s := fun p hne hs => by
  have hr : riseB (p.map fun i : Nat => (i : Int)) s.ps.length = true := by
    refine rise_iff.2 ⟨?_, fun x hx => ?_⟩
    · exact List.Pairwise.map _ (fun a b hab => Int.ofNat_lt.2 hab) (List.pairwise_lt_range.sublist hs)
    · obtain ⟨i, hi, rfl⟩ := List.mem_map.1 hx
      have := List.mem_range.1 (hs.subset hi)
      omega
  have := short_min hS (p := p.map fun i : Nat => (i : Int)) (by simpa using hne) hr (.inl h)
  rwa [List.length_map] at this
theorem short_of_crew {s : Sea} {c : List Int} (hc : CrewOf s.bs.length s.ps.length c) (h : safeC s c = true) : shortS s = [] := by
  refine Classical.byContradiction fun hne => ?_
  obtain ⟨hr, hlt⟩ := short_is hne
  obtain ⟨r1, r2⟩ := rise_iff.1 hr
  -- the boats of those places can carry the least need
  have hget : ∀ i ∈ shortS s, ∃ j, c[i.toNat]? = some j := fun i hi => ⟨_, List.getElem?_eq_getElem (by have := r2 i hi; rw [hc.1]; omega)⟩
  have hlen := sub_len ((shortS s).map fun i => (c.getD i.toNat 0).toNat) (ableL s (leastL (needsL s) (shortS s))) ?_ ?_
  · rw [List.length_map, ableL_len] at hlen
    omega
  · rw [List.Nodup, List.pairwise_map]
    refine r1.imp_of_mem fun {a b} ha hb hab => ?_
    obtain ⟨ja, hja⟩ := hget a ha
    obtain ⟨jb, hjb⟩ := hget b hb
    have ha0 := r2 a ha
    have hb0 := r2 b hb
    have hja0 := hc.2.1 ja (List.mem_of_getElem? hja)
    have hjb0 := hc.2.1 jb (List.mem_of_getElem? hjb)
    simp only [List.getD, hja, hjb, Option.getD_some]
    intro e
    have hjj : ja = jb := by omega
    obtain ⟨la, ea⟩ := List.getElem?_eq_some_iff.1 hja
    obtain ⟨lb, eb⟩ := List.getElem?_eq_some_iff.1 hjb
    have := List.pairwise_iff_getElem.1 hc.2.2 a.toNat b.toNat la lb (by omega)
    rw [ea, eb] at this
    exact this hjj
  · intro x hx
    obtain ⟨i, hi, rfl⟩ := List.mem_map.1 hx
    obtain ⟨j, hj⟩ := hget i hi
    have hj0 := hc.2.1 j (List.mem_of_getElem? hj)
    simp only [List.getD, hj, Option.getD_some]
    refine mem_able.2 ⟨by omega, ?_⟩
    have h1 := safe_at h hj
    have h2 := (least_le hne r2 (needN s i.toNat)).2 ⟨i, hi, Int.le_refl _⟩
    omega
/-- There is a crew that surely holds just if no places are short of boats. -/
theorem cheap_none {s : Sea} : cheapS s = none ↔ ∀ c, CrewOf s.bs.length s.ps.length c → safeC s c = false := by
  unfold cheapS
  rw [cheapL_none]
  exact ⟨fun h c hc => h c (mem_crews.2 hc), fun h c hc => h c (mem_crews.1 hc)⟩
theorem cheap_short {s : Sea} (hS : SOK s) : cheapS s = none ↔ shortS s ≠ [] := by
  rw [cheap_none]
  constructor
  · intro h he
    obtain ⟨c, hc, hs⟩ := crew_of_hall (hall_of_short hS he)
    rw [h c hc] at hs; cases hs
  · intro h c hc
    cases hs : safeC s c
    · rfl
    · exact absurd (short_of_crew hc hs) h
theorem cheap_most {s : Sea} (hS : SOK s) : cheapS s = none ↔ mostS s < s.wh := by
  rw [cheap_none]
  constructor
  · intro h
    refine Int.not_le.1 fun hle => ?_
    obtain ⟨c, hc, he⟩ := most_mem (s := s) (by have := hS.w0; have := hS.w1; omega)
    have := h c hc
    rw [safe_lift hS hc] at this
    have := of_decide_eq_false this
    omega
  · intro h c hc
    rw [safe_lift hS hc]
    refine decide_eq_false fun hle => ?_
    have := most_ge hc
    omega
theorem earlier_asym {a b : List Int} (h : earlierB a b = true) : earlierB b a = false := by
  cases h2 : earlierB b a
  · rfl
  · have := earlier_trans h h2
    rw [earlier_irr] at this; cases this
/-- The crew that Crew returns. -/
theorem cheap_is {s : Sea} {c : List Int} {n : Int} (h : cheapS s = some (c, n)) : CrewOf s.bs.length s.ps.length c ∧ safeC s c = true ∧ n = costS s c ∧ ∀ q, CrewOf s.bs.length s.ps.length q → safeC s q = true → n ≤ costS s q ∧ (n = costS s q → earlierB q c = false) := by
  obtain ⟨h1, h2, h3, h4, a, b, h5, h6⟩ := cheapL_some _ c n h
  refine ⟨mem_crews.1 h1, h2, h3, fun q hq hs => ⟨h4 q (mem_crews.2 hq) hs, fun he => ?_⟩⟩
  have hm := mem_crews.2 hq
  rw [h5] at hm
  rcases List.mem_append.1 hm with hm | hm
  · have := h6 q hm hs; omega
  · rcases List.mem_cons.1 hm with rfl | hm
    · exact earlier_irr _
    · have hsort := crews_sorted (nb := s.bs.length) s.ps.length [] (by simp)
      rw [h5] at hsort
      have := (List.pairwise_cons.1 (List.pairwise_append.1 hsort).2.1).1 q hm
      exact earlier_asym this
end Go.Proofs.Ytgjpllmmpclgaaa
