import Derived.Test.YtohoonbbjkefaaaM6
namespace Go.Proofs.Ytohoonbbjkefaaa

/-! The specification's way of dividing: step by step. -/
theorem lFix_snoc : ∀ (l : List Node) (r : Int) (x : Node), lFix r (l ++ [x]) = ((lFix r l).1 ++ [gmin x.f (lFix r l).2], (lFix r l).2 - gmin x.f (lFix r l).2)
  | [], r, x => by simp [lFix]
  | y :: ys, r, x => by
    simp only [List.cons_append, lFix]
    rw [lFix_snoc ys]
def at0 (l : List Int) (i : Nat) : Int := l[i]?.getD 0
theorem at0_set (l : List Int) (i j : Nat) (v : Int) : at0 (l.set i v) j = if i = j ∧ j < l.length then v else at0 l j := set_getD l i j v
/-- The parts by the Weights, of the first i. -/
def partsTo (l : List Node) (R s : Int) (fx : List Int) : Nat → List Int
  | 0 => fx
  | i + 1 => (partsTo l R s fx i).set i (at0 (partsTo l R s fx i) i + R * (nodeAt l i).w / s)
theorem partsTo_len (l : List Node) (R s : Int) (fx : List Int) : ∀ i, (partsTo l R s fx i).length = fx.length
  | 0 => rfl
  | i + 1 => by simp [partsTo, partsTo_len l R s fx i]
theorem partsTo_at (l : List Node) (R s : Int) (fx : List Int) : ∀ i j, j < fx.length → at0 (partsTo l R s fx i) j = at0 fx j + (if j < i then R * (nodeAt l j).w / s else 0)
  | 0, j, _ => by simp [partsTo]
  | i + 1, j, hj => by
    have ih := partsTo_at l R s fx i j hj
    rw [partsTo, at0_set, partsTo_len]
    by_cases e : i = j
    · subst e
      rw [if_pos ⟨rfl, hj⟩, ih, if_neg (by omega), if_pos (by omega)]
      omega
    · rw [if_neg (fun h => e h.1), ih]
      by_cases h : j < i
      · rw [if_pos h, if_pos (by omega)]
      · rw [if_neg h, if_neg (by omega)]
def oddTo (l : List Node) (R s : Int) (i : Nat) : Int := R - ((l.take i).map fun x => R * x.w / s).sum
theorem oddTo_step {l : List Node} {R s : Int} {i : Nat} {x : Node} (hx : l[i]? = some x) : oddTo l R s (i + 1) = oddTo l R s i - R * x.w / s := by
  have : l.take (i + 1) = l.take i ++ [x] := by rw [List.take_add_one, hx]; rfl
  unfold oddTo
  rw [this, List.map_append, List.sum_append]
  simp
  omega
theorem quo_small {R w s : Int} (h0 : 0 ≤ R) (h1 : R ≤ 400) (hw : 0 ≤ w) (hw9 : w ≤ 9) (hs : 0 < s) : 0 ≤ R * w ∧ R * w ≤ 3600 ∧ 0 ≤ R * w / s ∧ R * w / s ≤ 3600 := by
  have a : 0 ≤ R * w := Int.mul_nonneg h0 hw
  have b : R * w ≤ 400 * 9 := Int.mul_le_mul h1 hw9 hw (by omega)
  have c := Int.ediv_nonneg a (show 0 ≤ s by omega)
  have d := Int.ediv_le_self s a
  omega
theorem oddTo_bd {l : List Node} {R s : Int} (h0 : 0 ≤ R) (h1 : R ≤ 400) (hs : 0 < s) (hw : ∀ x ∈ l, 0 ≤ x.w ∧ x.w ≤ 9) (hl : l.length ≤ 7) : ∀ i, i ≤ l.length → -(3600 * (i : Int)) ≤ oddTo l R s i ∧ oddTo l R s i ≤ 400
  | 0, _ => by simp [oddTo]; omega
  | i + 1, hi => by
    have ih := oddTo_bd h0 h1 hs hw hl i (by omega)
    have hx : l[i]? = some l[i] := List.getElem?_eq_getElem (by omega)
    have hb := hw _ (List.getElem_mem (show i < l.length by omega))
    have hq := quo_small h0 h1 hb.1 hb.2 hs
    rw [oddTo_step hx]
    omega
/-- One more for the first ones. -/
def onesTo (l : List Node) (st : List Int) (odd : Int) : Nat → List Int × Int
  | 0 => (st, odd)
  | i + 1 => if 0 < (nodeAt l i).w ∧ 0 < (onesTo l st odd i).2 then ((onesTo l st odd i).1.set i (at0 (onesTo l st odd i).1 i + 1), (onesTo l st odd i).2 - 1) else onesTo l st odd i
theorem onesTo_len (l : List Node) (st : List Int) (odd : Int) : ∀ i, (onesTo l st odd i).1.length = st.length
  | 0 => rfl
  | i + 1 => by
    rw [onesTo]
    split
    · simp [onesTo_len l st odd i]
    · exact onesTo_len l st odd i
theorem onesTo_stop {l : List Node} {st : List Int} {odd : Int} {i : Nat} (h : ¬ 0 < (onesTo l st odd i).2) : ∀ j, onesTo l st odd (i + j) = onesTo l st odd i
  | 0 => rfl
  | j + 1 => by
    have ih := onesTo_stop h j
    rw [← Nat.add_assoc, onesTo, ih, if_neg (fun h2 => h h2.2)]
theorem lPos_take {l : List Node} {i : Nat} (hi : i < l.length) : lPos (l.take (i + 1)) = lPos (l.take i) + (if 0 < (nodeAt l i).w then 1 else 0) := by
  have hx : l[i]? = some (nodeAt l i) := GoodC.at_ hi
  have : l.take (i + 1) = l.take i ++ [nodeAt l i] := by rw [List.take_add_one, hx]; rfl
  rw [this]
  simp [lPos]
theorem onesTo_odd {l : List Node} {st : List Int} {odd : Int} (ho : 0 ≤ odd) : ∀ i, i ≤ l.length → (0 < (onesTo l st odd i).2 ↔ lPos (l.take i) < odd) ∧ 0 ≤ (onesTo l st odd i).2 ∧ (onesTo l st odd i).2 ≤ odd ∧ (0 < (onesTo l st odd i).2 → (onesTo l st odd i).2 = odd - lPos (l.take i))
  | 0, _ => by simp [onesTo, lPos, ho]
  | i + 1, hi => by
    obtain ⟨h1, h2, h3, h4⟩ := onesTo_odd (l := l) (st := st) ho i (by omega)
    have hp := lPos_take (l := l) (show i < l.length by omega)
    rw [onesTo]
    by_cases hw : 0 < (nodeAt l i).w
    · rw [if_pos hw] at hp
      by_cases hO : 0 < (onesTo l st odd i).2
      · rw [if_pos ⟨hw, hO⟩]
        have := h4 hO
        simp only
        refine ⟨⟨fun h => by omega, fun h => by omega⟩, by omega, by omega, fun h => by omega⟩
      · rw [if_neg (fun h => hO h.2)]
        refine ⟨⟨fun h => by omega, fun h => by omega⟩, by omega, by omega, fun h => by omega⟩
    · rw [if_neg hw] at hp
      rw [if_neg (fun h => hw h.1), hp, Int.add_zero]
      exact ⟨h1, h2, h3, h4⟩
theorem onesTo_at {l : List Node} {st : List Int} {odd : Int} (ho : 0 ≤ odd) (hst : st.length = l.length) : ∀ i, i ≤ l.length → ∀ j, j < l.length → at0 (onesTo l st odd i).1 j = at0 st j + (if j < i ∧ 0 < (nodeAt l j).w ∧ lPos (l.take j) < odd then 1 else 0)
  | 0, _, j, _ => by simp [onesTo]
  | i + 1, hi, j, hj => by
    have ih := onesTo_at ho hst i (by omega) j hj
    have hO := (onesTo_odd (l := l) (st := st) ho i (show i ≤ l.length by omega)).1
    rw [onesTo]
    by_cases hc : 0 < (nodeAt l i).w ∧ 0 < (onesTo l st odd i).2
    · rw [if_pos hc, at0_set, onesTo_len]
      by_cases e : i = j
      · subst e
        rw [if_pos ⟨rfl, by omega⟩, ih, if_neg (by omega), if_pos ⟨by omega, hc.1, hO.1 hc.2⟩]
        omega
      · rw [if_neg (fun h => e h.1), ih]
        by_cases h : j < i ∧ 0 < (nodeAt l j).w ∧ lPos (l.take j) < odd
        · rw [if_pos h, if_pos ⟨by omega, h.2⟩]
        · rw [if_neg h, if_neg (fun h2 => h ⟨by omega, h2.2⟩)]
    · rw [if_neg hc, ih]
      by_cases h : j < i ∧ 0 < (nodeAt l j).w ∧ lPos (l.take j) < odd
      · rw [if_pos h, if_pos ⟨by omega, h.2⟩]
      · rw [if_neg h, if_neg]
        intro h2
        by_cases e : i = j
        · subst e; exact hc ⟨h2.2.1, hO.2 h2.2.2⟩
        · exact h ⟨by omega, h2.2⟩
/-- **The specification's way comes to splitL.** -/
theorem ones_split (l : List Node) (hw : ∀ x ∈ l, 0 ≤ x.w) (P : Int) (hs : 0 < lSum l) :
    (onesTo l (partsTo l (lFix P l).2 (lSum l) (lFix P l).1 l.length) (oddTo l (lFix P l).2 (lSum l) l.length) l.length).1 = (splitL P l).1 := by
  have ho : oddTo l (lFix P l).2 (lSum l) l.length = lOdd (lFix P l).2 (lSum l) l := by unfold oddTo lOdd; rw [List.take_length]
  have hodd := (lOdd_bd (lFix P l).2 l hw hs).1
  have hpl : (partsTo l (lFix P l).2 (lSum l) (lFix P l).1 l.length).length = l.length := by rw [partsTo_len, lFix_len]
  refine ext_getD (by rw [onesTo_len, hpl, splitL_len]) (fun j hj => ?_)
  rw [onesTo_len, hpl] at hj
  have h1 := onesTo_at (st := partsTo l (lFix P l).2 (lSum l) (lFix P l).1 l.length) (odd := oddTo l (lFix P l).2 (lSum l) l.length) (by rw [ho]; exact hodd) hpl l.length (Nat.le_refl _) j hj
  have h2 := partsTo_at l (lFix P l).2 (lSum l) (lFix P l).1 l.length j (by rw [lFix_len]; exact hj)
  have hx : l[j]? = some (nodeAt l j) := GoodC.at_ hj
  have hb : ((lFix P l).1.zip l)[j]? = some (at0 (lFix P l).1 j, nodeAt l j) := by
    rw [List.getElem?_zip_eq_some]
    refine ⟨?_, hx⟩
    simp only [at0]
    rw [List.getElem?_eq_getElem (by rw [lFix_len]; exact hj)]
    rfl
  have h3 := lFin_at (lFix P l).2 (lSum l) ((lFix P l).1.zip l) (lOdd (lFix P l).2 (lSum l) l) j _ hb
  change at0 _ j = _
  rw [h1, h2, splitL, if_pos hs]
  simp only
  rw [h3, if_pos hj, List.map_take, List.map_snd_zip (by rw [lFix_len]; exact Nat.le_refl _), ho]
  simp only [hj, true_and]
end Go.Proofs.Ytohoonbbjkefaaa
