import Derived.Test.YtgjpllmmpclgaaaM4
namespace Go.Proofs.Ytgjpllmmpclgaaa
open Go.RowKit

/-! Plain law: the lists of places, in their order; the specification's Short. -/
/-- What follows the last number of a list. -/
def fromN (f : List Int) : Int := match f.getLast? with | none => 0 | some x => x + 1
theorem fromN_nil : fromN [] = 0 := rfl
theorem fromN_at {f : List Int} {x : Int} (h : f[f.length - 1]? = some x) : fromN f = x + 1 := by
  unfold fromN; rw [List.getLast?_eq_getElem?, h]
theorem fromN_snoc (f : List Int) (x : Int) : fromN (f ++ [x]) = x + 1 := by unfold fromN; simp
theorem from_le {f : List Int} {b : Int} (hp : f.Pairwise (· < ·)) (hb : 0 ≤ b) : fromN f ≤ b ↔ ∀ x ∈ f, x < b := by
  revert hp
  refine snoc_ind (P := fun f => f.Pairwise (· < ·) → (fromN f ≤ b ↔ ∀ x ∈ f, x < b)) (fun _ => by simp [fromN_nil, hb]) (fun g y _ hp => ?_) f
  rw [fromN_snoc]
  rw [List.pairwise_append] at hp
  constructor
  · intro h x hx
    rcases List.mem_append.1 hx with hx | hx
    · have := hp.2.2 x hx y (by simp); omega
    · simp at hx; omega
  · intro h
    have := h y (by simp)
    omega
/-- All rising lists of n more numbers below nb that begin with some. -/
def combR (nb : Nat) : Nat → List Int → List (List Int)
  | 0, f => [f]
  | n + 1, f => (List.range ((nb : Int) - fromN f).toNat).flatMap fun j : Nat => combR nb n (f ++ [fromN f + (j : Int)])
def combTo (nb n : Nat) (f : List Int) (k : Nat) : List (List Int) := (List.range k).flatMap fun j : Nat => combR nb n (f ++ [fromN f + (j : Int)])
theorem combTo_zero (nb n : Nat) (f : List Int) : combTo nb n f 0 = [] := rfl
theorem combTo_succ (nb n : Nat) (f : List Int) (k : Nat) : combTo nb n f (k + 1) = combTo nb n f k ++ combR nb n (f ++ [fromN f + (k : Int)]) := by
  unfold combTo; rw [List.range_succ, List.flatMap_append]; simp
theorem combTo_all {nb n : Nat} {f : List Int} {k : Nat} (h : fromN f + (k : Int) = nb ∨ (k = 0 ∧ (nb : Int) ≤ fromN f)) : combTo nb n f k = combR nb (n + 1) f := by
  obtain rfl : k = ((nb : Int) - fromN f).toNat := by omega
  rfl
theorem combTo_bd {nb n M : Nat} {f : List Int} (hM : ∀ g, 0 ≤ fromN g → (combR nb n g).length ≤ M) (h0 : 0 ≤ fromN f) : ∀ k, (combTo nb n f k).length ≤ M * k
  | 0 => by simp [combTo_zero]
  | k + 1 => by
    have := combTo_bd hM h0 k
    have := hM (f ++ [fromN f + (k : Int)]) (by rw [fromN_snoc]; omega)
    rw [combTo_succ, List.length_append, Nat.mul_succ]
    omega
theorem combR_bound {nb : Nat} (h : nb ≤ 4) : ∀ (n : Nat) (f : List Int), 0 ≤ fromN f → (combR nb n f).length ≤ 4 ^ n
  | 0, f, _ => by simp [combR]
  | n + 1, f, h0 => by
    rw [← combTo_all (k := ((nb : Int) - fromN f).toNat) (by omega)]
    refine Nat.le_trans (combTo_bd (combR_bound h n) h0 _) ?_
    rw [Nat.pow_succ]
    exact Nat.mul_le_mul_left _ (by omega)
theorem combR_small {nb n : Nat} (h : nb ≤ 4) (hn : n ≤ 4) {f : List Int} (h0 : 0 ≤ fromN f) : (combR nb n f).length ≤ 256 :=
  Nat.le_trans (combR_bound h n f h0) (Nat.le_trans (Nat.pow_le_pow_right (by decide) hn) (by decide))
theorem combTo_small {nb n : Nat} (h : nb ≤ 4) (hn : n ≤ 4) {f : List Int} (h0 : 0 ≤ fromN f) (k : Nat) (hk : k ≤ 4) : (combTo nb n f k).length ≤ 1024 :=
  Nat.le_trans (combTo_bd (M := 256) (fun g hg => combR_small h hn hg) h0 k) (by omega)
theorem comb_pre {nb : Nat} : ∀ (n : Nat) (f p : List Int), p ∈ combR nb n f → ∃ t, p = f ++ t ∧ t.length = n
  | 0, f, p, h => ⟨[], by simpa [combR] using h, rfl⟩
  | n + 1, f, p, h => by
    simp only [combR, List.mem_flatMap] at h
    obtain ⟨j, _, h⟩ := h
    obtain ⟨t, rfl, ht⟩ := comb_pre n _ p h
    exact ⟨(fromN f + (j : Int)) :: t, by simp, by simp [ht]⟩
theorem rise_snoc {f : List Int} {b : Int} (hp : f.Pairwise (· < ·)) (h : ∀ x ∈ f, x < b) : (f ++ [b]).Pairwise (· < ·) := by
  rw [List.pairwise_append]
  exact ⟨hp, by simp, fun x hx y hy => by simp at hy; subst hy; exact h x hx⟩
theorem mem_comb {nb : Nat} : ∀ (n : Nat) (f p : List Int), f.Pairwise (· < ·) → (∀ x ∈ f, 0 ≤ x ∧ x < nb) → (p ∈ combR nb n f ↔ ∃ t, p = f ++ t ∧ t.length = n ∧ p.Pairwise (· < ·) ∧ ∀ x ∈ p, 0 ≤ x ∧ x < nb)
  | 0, f, p, hf, hb => by
    simp only [combR, List.mem_singleton]
    constructor
    · rintro rfl; exact ⟨[], by simp, rfl, hf, hb⟩
    · rintro ⟨t, rfl, h, _⟩; rw [List.length_eq_zero_iff.1 h, List.append_nil]
  | n + 1, f, p, hf, hb => by
    have h0 : 0 ≤ fromN f := by
      have := (from_le hf (b := -1 + 1) (by omega))
      unfold fromN
      cases hl : f.getLast? with
      | none => simp
      | some x =>
        have := (hb x (List.mem_of_getLast? hl)).1
        simp only; omega
    simp only [combR, List.mem_flatMap, List.mem_range]
    constructor
    · rintro ⟨j, hj, h⟩
      have hlt := (from_le hf (b := fromN f + (j : Int)) (by omega)).1 (by omega)
      obtain ⟨t, rfl, h1, h2, h3⟩ := (mem_comb n _ p (rise_snoc hf hlt) (fun x hx => by
        rcases List.mem_append.1 hx with hx | hx
        · exact hb x hx
        · simp at hx; omega)).1 h
      exact ⟨(fromN f + (j : Int)) :: t, by simp, by simp [h1], h2, h3⟩
    · rintro ⟨t, rfl, h1, h2, h3⟩
      match t, h1 with
      | y :: t, h1 =>
        have hy := h3 y (by simp)
        have e : f ++ y :: t = (f ++ [y]) ++ t := by simp
        have hlt : ∀ x ∈ f, x < y := fun x hx => (List.pairwise_append.1 h2).2.2 x hx y (by simp)
        have hle := (from_le hf hy.1).2 hlt
        have ey : fromN f + (((y - fromN f).toNat : Nat) : Int) = y := by omega
        refine ⟨(y - fromN f).toNat, by omega, ?_⟩
        rw [ey]
        refine (mem_comb n _ _ (rise_snoc hf hlt) (fun x hx => by
          rcases List.mem_append.1 hx with hx | hx
          · exact hb x hx
          · simp at hx; omega)).2 ⟨t, e, by simpa using h1, h2, h3⟩
theorem comb_rise {nb n : Nat} {p : List Int} : p ∈ combR nb n [] ↔ p.length = n ∧ riseB p nb = true := by
  rw [mem_comb n [] p (by simp) (by simp), rise_iff]
  constructor
  · rintro ⟨t, rfl, h1, h2, h3⟩; exact ⟨by simpa using h1, h2, h3⟩
  · rintro ⟨h1, h2, h3⟩; exact ⟨p, by simp, h1, h2, h3⟩
theorem comb_sorted {nb : Nat} : ∀ (n : Nat) (f : List Int), (combR nb n f).Pairwise fun a b => earlierB a b = true
  | 0, f => by simp [combR]
  | n + 1, f => by
    unfold combR
    rw [List.pairwise_flatMap]
    refine ⟨fun j _ => comb_sorted n _, ?_⟩
    refine List.pairwise_lt_range.imp fun {a b} hab x hx y hy => ?_
    obtain ⟨t, rfl, _⟩ := comb_pre n _ _ hx
    obtain ⟨u, rfl, _⟩ := comb_pre n _ _ hy
    rw [List.append_assoc, List.append_assoc, earlier_pre]
    simp only [List.singleton_append, earlierB]
    rw [if_neg (by omega)]
    simp; omega
/-- Are there enough boats for some places? -/
def enoughP (s : Sea) (p : List Int) : Prop := p.length ≤ canC s (leastL (needsL s) p)
/-- All lists of fewer places, and the first ones of as many, have enough boats. -/
def allTo (s : Sea) (many : Nat) : Prop := ∀ p : List Int, p ≠ [] → riseB p s.ps.length = true → p.length < many → enoughP s p
def rowTo (s : Sea) (many k : Nat) : Prop := ∀ (j : Nat) (p : List Int), j < k → (combR s.ps.length many [])[j]? = some p → enoughP s p
theorem allTo_one (s : Sea) : allTo s 1 := fun p hp _ hl => absurd (List.length_eq_zero_iff.1 (by omega)) hp
theorem rowTo_zero (s : Sea) (many : Nat) : rowTo s many 0 := fun j _ hj => absurd hj (by omega)
theorem rowTo_next {s : Sea} {many k : Nat} {p : List Int} (h : rowTo s many k) (hp : (combR s.ps.length many [])[k]? = some p) (ho : enoughP s p) : rowTo s many (k + 1) := fun j q hj hq => by
  by_cases e : j < k
  · exact h j q e hq
  · obtain rfl : j = k := by omega
    rw [hp] at hq; cases hq; exact ho
theorem allTo_next {s : Sea} {many : Nat} (h : allTo s many) (hr : rowTo s many (combR s.ps.length many []).length) : allTo s (many + 1) := fun p hp h1 h2 => by
  by_cases e : p.length < many
  · exact h p hp h1 e
  · obtain ⟨j, hj⟩ := List.getElem?_of_mem (comb_rise.2 ⟨show p.length = many by omega, h1⟩)
    exact hr j p (List.getElem?_eq_some_iff.1 hj).1 hj
theorem rise_len {p : List Int} {n : Nat} (h : riseB p n = true) : p.length ≤ n := by
  obtain ⟨h1, h2⟩ := rise_iff.1 h
  exact pigeon n p (h1.imp fun hab e => by omega) h2
theorem short_end {s : Sea} (h : allTo s (s.ps.length + 1)) : shortS s = [] := by
  by_cases hs : shortS s = []
  · exact hs
  · obtain ⟨h1, h2⟩ := short_is hs
    have := h _ hs h1 (by have := rise_len h1; omega)
    unfold enoughP at this
    omega
theorem short_found {s : Sea} (hS : SOK s) {many k : Nat} {p : List Int} (hm : 1 ≤ many) (h : allTo s many) (hr : rowTo s many k) (hp : (combR s.ps.length many [])[k]? = some p) (ho : ¬ enoughP s p) : shortS s = p ∧ p ≠ [] := by
  obtain ⟨hl, hri⟩ := comb_rise.1 (List.mem_of_getElem? hp)
  have hpn : p ≠ [] := fun e => by rw [e] at hl; simp at hl; omega
  have hno : ¬ (shortS s = [] ∨ lessP p (shortS s)) := fun hh => ho (short_min hS hpn hri hh)
  have hsn : shortS s ≠ [] := fun e => hno (.inl e)
  obtain ⟨h1, h2⟩ := short_is hsn
  refine ⟨?_, hpn⟩
  have hge : ¬ (shortS s).length < many := fun hh => by
    have := h _ hsn h1 hh
    unfold enoughP at this; omega
  have hle : ¬ p.length < (shortS s).length := fun hh => hno (.inr (.inl hh))
  have hsl : (shortS s).length = many := by omega
  rcases earlier_total (shortS s) p (by omega) with e | e | e
  · exact e
  · obtain ⟨j, hj⟩ := List.getElem?_of_mem (comb_rise.2 ⟨hsl, h1⟩)
    have hjl := (List.getElem?_eq_some_iff.1 hj).1
    have hkl := (List.getElem?_eq_some_iff.1 hp).1
    have hjk : j < k := Classical.byContradiction fun hh => by
      by_cases hjk : j = k
      · subst hjk
        rw [hj] at hp; cases hp
        rw [earlier_irr] at e; cases e
      · have := List.pairwise_iff_getElem.1 (comb_sorted (nb := s.ps.length) many []) k j hkl hjl (by omega)
        rw [(List.getElem?_eq_some_iff.1 hj).2, (List.getElem?_eq_some_iff.1 hp).2] at this
        have := earlier_trans this e
        rw [earlier_irr] at this; cases this
    have := hr j _ hjk hj
    unfold enoughP at this; omega
  · exact absurd (.inr (.inr ⟨by omega, e⟩)) hno
end Go.Proofs.Ytgjpllmmpclgaaa
