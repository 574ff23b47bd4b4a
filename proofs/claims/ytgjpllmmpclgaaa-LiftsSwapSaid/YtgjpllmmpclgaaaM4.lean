import Derived.Test.YtgjpllmmpclgaaaF1
namespace Go.Proofs.Ytgjpllmmpclgaaa
open Go.RowKit

/-! Short in plain words: the first of the lists of places for which there are too few boats. -/
theorem rise_iff {l : List Int} {n : Int} : riseB l n = true ↔ l.Pairwise (· < ·) ∧ ∀ x ∈ l, 0 ≤ x ∧ x < n := by
  constructor
  · intro h
    have hat : ∀ (k : Nat) (x : Int), l[k]? = some x → (0 ≤ x ∧ x < n) ∧ ∀ y, 0 < k → l[k - 1]? = some y → y < x := fun k x hx => by
      have hk := (List.getElem?_eq_some_iff.1 hx).1
      have h1 := riseB_at h hk
      unfold riseOK at h1
      rw [Bool.and_eq_true, inR_true, show l.getD k 0 = x by simp [List.getD, hx]] at h1
      refine ⟨by omega, fun y hk0 hy => ?_⟩
      rw [show l.getD (k - 1) 0 = y by simp [List.getD, hy]] at h1
      have h2 := h1.2
      rw [Bool.or_eq_true, decide_eq_true_eq] at h2
      rcases h2 with h2 | h2
      · simp at h2; omega
      · exact h2
    refine ⟨?_, fun x hx => by obtain ⟨k, hk⟩ := List.mem_iff_getElem?.1 hx; exact (hat k x hk).1⟩
    rw [List.pairwise_iff_getElem]
    have step : ∀ (d i : Nat) (hi : i < l.length) (hj : i + d + 1 < l.length), l[i] < l[i + d + 1] := fun d => by
      induction d with
      | zero => intro i hi hj; exact (hat (i + 0 + 1) _ (List.getElem?_eq_getElem hj)).2 _ (by omega) (by simp)
      | succ d ih =>
        intro i hi hj
        have h1 := ih i hi (by omega)
        have h2 := (hat (i + (d + 1) + 1) _ (List.getElem?_eq_getElem hj)).2 (l[i + d + 1]'(by omega)) (by omega) (by rw [show i + (d + 1) + 1 - 1 = i + d + 1 by omega]; exact List.getElem?_eq_getElem (by omega))
        omega
    intro i j hi hj hij
    obtain ⟨d, rfl⟩ : ∃ d, j = i + d + 1 := ⟨j - i - 1, by omega⟩
    exact step d i hi hj
  · rintro ⟨h1, h2⟩
    refine riseB_yes fun k hk => ?_
    unfold riseOK
    rw [Bool.and_eq_true, inR_true, Bool.or_eq_true, decide_eq_true_eq]
    have hx : l.getD k 0 = l[k] := by simp [List.getD, List.getElem?_eq_getElem hk]
    have hm := h2 _ (List.getElem_mem hk)
    rw [hx]
    refine ⟨by omega, ?_⟩
    cases k with
    | zero => left; rfl
    | succ k =>
      right
      have hy : l.getD k 0 = l[k] := by simp [List.getD, List.getElem?_eq_getElem (show k < l.length by omega)]
      rw [show k + 1 - 1 = k by omega, hy]
      exact List.pairwise_iff_getElem.1 h1 k (k + 1) (by omega) hk (by omega)
theorem placesTo_rise (st k : Nat) : riseB (placesTo st k) (k : Int) = true := by
  rw [rise_iff]
  constructor
  · unfold placesTo
    refine List.Pairwise.map _ (fun a b hab => ?_) ((List.pairwise_lt_range (n := k)).filter _)
    exact Int.ofNat_lt.2 hab
  · intro x hx
    obtain ⟨i, rfl, h, _⟩ := mem_placesTo.1 hx
    omega
theorem bit_add : ∀ k, k < 4 → ∀ st, st < 2 ^ k → (st + 2 ^ k).testBit k = true ∧ st.testBit k = false ∧ ∀ i, i < k → (st + 2 ^ k).testBit i = st.testBit i := by decide +kernel
theorem placesTo_ext {st st' : Nat} : ∀ k, (∀ i, i < k → st.testBit i = st'.testBit i) → placesTo st k = placesTo st' k := fun k h => by
  unfold placesTo
  congr 1
  exact List.filter_congr fun i hi => h i (List.mem_range.1 hi)
theorem rise_set : ∀ (k : Nat), k ≤ 4 → ∀ p : List Int, p.Pairwise (· < ·) → (∀ x ∈ p, 0 ≤ x ∧ x < k) → ∃ st, st < 2 ^ k ∧ placesTo st k = p
  | 0, _, p, _, h => by
    cases p with
    | nil => exact ⟨0, by simp, rfl⟩
    | cons x p => have := h x (by simp); omega
  | k + 1, hk, p, hp, h => by
    by_cases hm : (k : Int) ∈ p
    · -- the last one is k
      obtain ⟨q, rfl⟩ : ∃ q, p = q ++ [(k : Int)] := by
        cases hr : p.reverse with
        | nil => have : p = [] := by simpa using hr
                 rw [this] at hm; simp at hm
        | cons z t =>
          have e : p = t.reverse ++ [z] := by have := congrArg List.reverse hr; simpa using this
          have hz : z = k := by
            rw [e] at hm hp h
            rcases List.mem_append.1 hm with hm | hm
            · have h1 := (List.pairwise_append.1 hp).2.2 _ hm z (by simp)
              have h2 := h z (by simp)
              omega
            · simp at hm; exact hm.symm
          exact ⟨t.reverse, by rw [e, hz]⟩
      have hpq := List.pairwise_append.1 hp
      obtain ⟨st, h1, h2⟩ := rise_set k (by omega) q hpq.1 fun x hx => by
        have a := h x (by simp [hx])
        have b := hpq.2.2 x hx (k : Int) (by simp)
        omega
      obtain ⟨b1, _, b3⟩ := bit_add k (by omega) st h1
      refine ⟨st + 2 ^ k, by rw [Nat.pow_succ]; omega, ?_⟩
      rw [placesTo_yes b1, placesTo_ext k b3, h2]
    · obtain ⟨st, h1, h2⟩ := rise_set k (by omega) p hp fun x hx => by
        have a := h x hx
        have : x ≠ k := fun e => hm (e ▸ hx)
        omega
      obtain ⟨_, b2, _⟩ := bit_add k (by omega) st h1
      exact ⟨st, by rw [Nat.pow_succ]; omega, by rw [placesTo_no b2, h2]⟩
/-- The least need. -/
theorem foldl_min_le {f : Int → Int} {x : Int} : ∀ (l : List Int) (n : Int), l.foldl (fun n i => min n (f i)) n ≤ x ↔ n ≤ x ∨ ∃ i ∈ l, f i ≤ x
  | [], n => by simp
  | y :: l, n => by
    rw [List.foldl_cons, foldl_min_le l]
    simp only [List.mem_cons, exists_eq_or_imp]
    rw [← or_assoc]
    refine or_congr ?_ Iff.rfl
    omega
theorem least_le {s : Sea} {p : List Int} (h1 : p ≠ []) (hp : ∀ i ∈ p, 0 ≤ i ∧ i < s.ps.length) (x : Int) : leastL (needsL s) p ≤ x ↔ ∃ i ∈ p, needN s i.toNat ≤ x := by
  have hg : ∀ i ∈ p, (needsL s).getD i.toNat 0 = needN s i.toNat := fun i hi => by
    have := hp i hi
    simp [List.getD, needsL_at (s := s) (k := i.toNat) (by omega)]
  unfold leastL leastTo
  rw [List.take_length, foldl_min_le]
  have hm : p.getD 0 0 ∈ p := by
    cases p with
    | nil => exact absurd rfl h1
    | cons y p => simp
  constructor
  · rintro (h | ⟨i, hi, h⟩)
    · exact ⟨_, hm, by rw [← hg _ hm]; exact h⟩
    · exact ⟨i, hi, by rw [← hg _ hi]; exact h⟩
  · rintro ⟨i, hi, h⟩
    exact .inr ⟨i, hi, by rw [hg _ hi]; exact h⟩
theorem canTo_least {s : Sea} {p : List Int} (h1 : p ≠ []) (hp : ∀ i ∈ p, 0 ≤ i ∧ i < s.ps.length) : canTo s p s.bs.length = canC s (leastL (needsL s) p) := by
  unfold canTo canC
  rw [List.take_length]
  congr 2
  funext z
  rw [Bool.eq_iff_iff]
  unfold canB
  rw [List.any_eq_true, decide_eq_true_eq, least_le h1 hp]
  simp
/-! The order of lists. -/
theorem cmp_earlier : ∀ (a b : List Int), a.length = b.length → (cmpI a b < 0 ↔ earlierB a b = true)
  | [], [], _ => by simp [cmpI, earlierB]
  | x :: a, y :: b, h => by
    unfold cmpI earlierB
    by_cases e : x = y
    · rw [if_pos e, if_pos e]; exact cmp_earlier a b (by simpa using h)
    · rw [if_neg e, if_neg e, decide_eq_true_eq]
      unfold cmpN
      split
      · simp; assumption
      · split <;> simp <;> omega
theorem earlier_trans : ∀ {a b c : List Int}, earlierB a b = true → earlierB b c = true → earlierB a c = true
  | [], _, _, h, _ => by simp [earlierB] at h
  | _ :: _, [], _, h, _ => by simp [earlierB] at h
  | _ :: _, _ :: _, [], _, h => by simp [earlierB] at h
  | x :: a, y :: b, z :: c, h1, h2 => by
    unfold earlierB at h1 h2 ⊢
    by_cases e1 : x = y
    · rw [if_pos e1] at h1
      by_cases e2 : y = z
      · rw [if_pos e2] at h2; rw [if_pos (e1.trans e2)]; exact earlier_trans h1 h2
      · rw [if_neg e2] at h2; rw [if_neg (by omega)]; simp at h2 ⊢; omega
    · rw [if_neg e1] at h1
      by_cases e2 : y = z
      · rw [if_neg (by omega)]; simp at h1 ⊢; omega
      · rw [if_neg e2] at h2
        simp at h1 h2
        rw [if_neg (by omega)]; simp; omega
theorem earlier_irr : ∀ (a : List Int), earlierB a a = false
  | [] => rfl
  | x :: a => by unfold earlierB; rw [if_pos rfl]; exact earlier_irr a
theorem earlier_total : ∀ (a b : List Int), a.length = b.length → a = b ∨ earlierB a b = true ∨ earlierB b a = true
  | [], [], _ => .inl rfl
  | x :: a, y :: b, h => by
    unfold earlierB
    by_cases e : x = y
    · subst e
      rw [if_pos rfl, if_pos rfl]
      rcases earlier_total a b (by simpa using h) with h | h | h
      · exact .inl (by rw [h])
      · exact .inr (.inl h)
      · exact .inr (.inr h)
    · rw [if_neg e, if_neg (by omega)]
      right
      simp; omega
/-- One list is shorter, or as long and less. -/
def lessP (p b : List Int) : Prop := p.length < b.length ∨ (p.length = b.length ∧ earlierB p b = true)
theorem lessP_trans {a b c : List Int} (h1 : lessP a b) (h2 : lessP b c) : lessP a c := by
  rcases h1 with h1 | ⟨h1, h1'⟩ <;> rcases h2 with h2 | ⟨h2, h2'⟩
  · exact .inl (by omega)
  · exact .inl (by omega)
  · exact .inl (by omega)
  · exact .inr ⟨by omega, earlier_trans h1' h2'⟩
theorem lessP_irr (a : List Int) : ¬ lessP a a := by
  rintro (h | ⟨_, h⟩)
  · omega
  · rw [earlier_irr] at h; cases h
theorem shortLess_iff {p b : List Int} : shortLess p b = true ↔ b = [] ∨ lessP p b := by
  unfold shortLess lessP
  simp only [Bool.or_eq_true, Bool.and_eq_true, decide_eq_true_eq]
  refine or_congr Iff.rfl (or_congr Iff.rfl ?_)
  constructor
  · rintro ⟨h, h2⟩; exact ⟨h, (cmp_earlier p b h).1 h2⟩
  · rintro ⟨h, h2⟩; exact ⟨h, (cmp_earlier p b h).2 h2⟩
/-- Some places that have too few boats. -/
def badP (s : Sea) (p : List Int) : Prop := canTo s p s.bs.length < p.length
theorem shortTo_spec (s : Sea) : ∀ st, (shortTo s st = [] → ∀ j, 1 ≤ j → j ≤ st → ¬ badP s (placesTo j s.ps.length)) ∧
    (shortTo s st ≠ [] → badP s (shortTo s st) ∧ (∃ j, shortTo s st = placesTo j s.ps.length) ∧ ∀ j, 1 ≤ j → j ≤ st → badP s (placesTo j s.ps.length) → ¬ lessP (placesTo j s.ps.length) (shortTo s st))
  | 0 => ⟨fun _ j h1 h2 => by omega, fun h => absurd rfl h⟩
  | st + 1 => by
    obtain ⟨i1, i2⟩ := shortTo_spec s st
    have hiff : shortB s (placesTo (st + 1) s.ps.length) (shortTo s st) = true ↔ badP s (placesTo (st + 1) s.ps.length) ∧ (shortTo s st = [] ∨ lessP (placesTo (st + 1) s.ps.length) (shortTo s st)) := by
      unfold shortB
      rw [Bool.and_eq_true, decide_eq_true_eq, shortLess_iff]; rfl
    cases h : shortB s (placesTo (st + 1) s.ps.length) (shortTo s st)
    · rw [shortTo_no h]
      have hno : ¬ (badP s (placesTo (st + 1) s.ps.length) ∧ (shortTo s st = [] ∨ lessP (placesTo (st + 1) s.ps.length) (shortTo s st))) := fun hh => by rw [hiff.2 hh] at h; cases h
      refine ⟨fun he j h1 h2 hb => ?_, fun hne => ?_⟩
      · by_cases e : j = st + 1
        · subst e; exact hno ⟨hb, .inl he⟩
        · exact i1 he j h1 (by omega) hb
      · obtain ⟨k1, k2, k3⟩ := i2 hne
        refine ⟨k1, k2, fun j h1 h2 hb hl => ?_⟩
        by_cases e : j = st + 1
        · subst e; exact hno ⟨hb, .inr hl⟩
        · exact k3 j h1 (by omega) hb hl
    · obtain ⟨hb, hor⟩ := hiff.1 h
      rw [shortTo_yes h]
      refine ⟨fun he => ?_, fun _ => ⟨hb, ⟨_, rfl⟩, fun j h1 h2 hbj hl => ?_⟩⟩
      · unfold badP at hb; rw [he] at hb; simp at hb
      · by_cases e : j = st + 1
        · subst e; exact lessP_irr _ hl
        · rcases hor with he | hl2
          · exact i1 he j h1 (by omega) hbj
          · by_cases hne : shortTo s st = []
            · exact i1 hne j h1 (by omega) hbj
            · exact (i2 hne).2.2 j h1 (by omega) hbj (lessP_trans hl hl2)
/-- **Short**: it is such a list, and none is less. -/
theorem short_is {s : Sea} (h : shortS s ≠ []) : riseB (shortS s) s.ps.length = true ∧ canC s (leastL (needsL s) (shortS s)) < (shortS s).length := by
  obtain ⟨h1, ⟨j, hj⟩, _⟩ := (shortTo_spec s (2 ^ s.ps.length - 1)).2 h
  have hr : riseB (shortS s) s.ps.length = true := by rw [show shortS s = placesTo j s.ps.length from hj]; exact placesTo_rise j _
  refine ⟨hr, ?_⟩
  rw [← canTo_least h (rise_iff.1 hr).2]
  exact h1
theorem short_min {s : Sea} (hS : SOK s) {p : List Int} (hp : p ≠ []) (hr : riseB p s.ps.length = true) (hl : shortS s = [] ∨ lessP p (shortS s)) : p.length ≤ canC s (leastL (needsL s) p) := by
  obtain ⟨r1, r2⟩ := rise_iff.1 hr
  rw [← canTo_least hp r2]
  obtain ⟨st, h1, rfl⟩ := rise_set s.ps.length hS.pl p r1 r2
  have h0 : 1 ≤ st := by
    rcases Nat.eq_zero_or_pos st with rfl | h
    · refine absurd ?_ hp
      unfold placesTo
      simp
    · exact h
  have hspec := shortTo_spec s (2 ^ s.ps.length - 1)
  refine Nat.not_lt.1 fun hb => ?_
  by_cases he : shortS s = []
  · exact hspec.1 he st h0 (by omega) hb
  · rcases hl with hl | hl
    · exact he hl
    · exact (hspec.2 he).2.2 st h0 (by omega) hb hl
end Go.Proofs.Ytgjpllmmpclgaaa
