import Derived.Test.YtohoonbbjkefaaaN1
namespace Go.Proofs.Ytohoonbbjkefaaa

/-! The plain law of greater weights. -/
def scaleN (t : Int) (x : Node) : Node := ⟨x.u, x.w * t, x.f⟩
theorem mul_nodeAt (t : Int) (ns : List Node) (i : Nat) : nodeAt (ns.map (scaleN t)) i = scaleN t (nodeAt ns i) := by
  unfold nodeAt
  rw [List.getElem?_map]
  cases ns[i]? with
  | none => simp [scaleN]
  | some x => rfl
theorem mul_kids (t : Int) (ns : List Node) (k : Nat) : kidsN (ns.map (scaleN t)) k = kidsN ns k := by
  unfold kidsN
  rw [List.length_map]
  refine List.filter_congr (fun i _ => ?_)
  unfold isKid
  rw [mul_nodeAt]
  rfl
theorem mul_kidL (t : Int) (ns : List Node) (k : Nat) : (kidsN (ns.map (scaleN t)) k).map (nodeAt (ns.map (scaleN t))) = ((kidsN ns k).map (nodeAt ns)).map (scaleN t) := by
  rw [mul_kids, List.map_map]
  exact List.map_congr_left (fun i _ => mul_nodeAt t ns i)
theorem mul_lSum (t : Int) : ∀ l : List Node, lSum (l.map (scaleN t)) = lSum l * t
  | [] => by simp [lSum]
  | x :: xs => by
    have := mul_lSum t xs
    simp only [lSum, List.map_cons, List.sum_cons] at *
    rw [Int.add_mul, this]
    rfl
theorem mul_lFix (t : Int) : ∀ (l : List Node) (r : Int), lFix r (l.map (scaleN t)) = lFix r l
  | [], _ => rfl
  | x :: xs, r => by
    simp only [List.map_cons, lFix]
    rw [mul_lFix t xs]
    rfl
theorem mul_quo {t : Int} (ht : 0 < t) (R w s : Int) : R * (w * t) / (s * t) = R * w / s := by
  rw [← Int.mul_assoc, Int.mul_ediv_mul_of_pos_left _ _ ht]
theorem mul_lFin {t : Int} (ht : 0 < t) (R s : Int) : ∀ (l : List (Int × Node)) (o : Int), lFin R (s * t) o (l.map (fun p => (p.1, scaleN t p.2))) = lFin R s o l
  | [], _ => rfl
  | (b, x) :: xs, o => by
    simp only [List.map_cons, lFin]
    have e : (0 < (scaleN t x).w) = (0 < x.w) := by
      apply propext
      constructor
      · intro h
        rcases Int.lt_trichotomy 0 x.w with h1 | h1 | h1
        · exact h1
        · have h2 : 0 < x.w * t := h; rw [← h1] at h2; simp at h2
        · have h2 : 0 < x.w * t := h; have := Int.mul_neg_of_neg_of_pos h1 ht; omega
      · intro h; exact Int.mul_pos h ht
    simp only [mul_quo ht, show (scaleN t x).w = x.w * t from rfl, mul_lFin ht R s xs] at e ⊢
    simp only [e]
theorem mul_splitL {t : Int} (ht : 0 < t) (P : Int) (l : List Node) : splitL P (l.map (scaleN t)) = splitL P l := by
  unfold splitL
  rw [mul_lSum, mul_lFix]
  have e : (0 < lSum l * t) = (0 < lSum l) := by
    apply propext
    constructor
    · intro h
      rcases Int.lt_trichotomy 0 (lSum l) with h1 | h1 | h1
      · exact h1
      · rw [← h1] at h; simp at h
      · have := Int.mul_neg_of_neg_of_pos h1 ht; omega
    · intro h; exact Int.mul_pos h ht
  have e2 : lOdd (lFix P l).2 (lSum l * t) (l.map (scaleN t)) = lOdd (lFix P l).2 (lSum l) l := by
    unfold lOdd
    rw [List.map_map]
    congr 2
    exact List.map_congr_left (fun x _ => mul_quo ht _ _ _)
  have e3 : (lFix P l).1.zip (l.map (scaleN t)) = ((lFix P l).1.zip l).map (fun p => (p.1, scaleN t p.2)) := by
    rw [List.zip_map_right]
    rfl
  rw [e2, e3, mul_lFin ht]
  simp only [e]
theorem mul_getS {t : Int} (ht : 0 < t) (ns : List Node) (P : Int) : ∀ f n, getS (ns.map (scaleN t)) P f n = getS ns P f n
  | 0, _ => rfl
  | f + 1, n => by
    simp only [getS]
    have e : (nodeAt (ns.map (scaleN t)) n).u.toNat = (nodeAt ns n).u.toNat := by rw [mul_nodeAt]; rfl
    rw [e, mul_kidL, mul_splitL ht, mul_kids, mul_getS ht ns P f]
theorem mul_gotS {t : Int} (ht : 0 < t) (ns : List Node) (P : Int) (n : Nat) : gotS (ns.map (scaleN t)) P n = gotS ns P n := mul_getS ht ns P n n
theorem mul_gotsS {t : Int} (ht : 0 < t) (ns : List Node) (P : Int) : gotsS (ns.map (scaleN t)) P = gotsS ns P := by
  unfold gotsS
  rw [List.length_map]
  exact List.map_congr_left (fun n _ => mul_gotS ht ns P n)
theorem mul_wsum (t : Int) (ns : List Node) (k : Nat) : wsum (ns.map (scaleN t)) k = wsum ns k * t := by
  unfold wsum
  rw [mul_kidL, mul_lSum]
theorem mul_exOf {t : Int} (ht : 0 < t) (ns : List Node) : ∀ f n, ∃ e : Int, 0 < e ∧ exOf (ns.map (scaleN t)) f n = ((exOf ns f n).1 * e, (exOf ns f n).2 * e)
  | 0, _ => ⟨1, by decide, by simp [exOf]⟩
  | f + 1, n => by
    simp only [exOf]
    have eu : upN (ns.map (scaleN t)) n = upN ns n := by unfold upN; rw [mul_nodeAt]; rfl
    rw [eu, mul_wsum]
    by_cases h0 : n = 0
    · rw [if_pos h0, if_pos h0]; exact ⟨1, by decide, by simp⟩
    · rw [if_neg h0, if_neg h0]
      by_cases hs : wsum ns (upN ns n) = 0
      · rw [if_pos hs, if_pos (by rw [hs]; simp)]; exact ⟨1, by decide, by simp⟩
      · rw [if_neg hs, if_neg (fun h => hs ((Int.mul_eq_zero.1 h).resolve_right (by omega)))]
        obtain ⟨e, he, hh⟩ := mul_exOf ht ns f (upN ns n)
        rw [hh, mul_nodeAt]
        refine ⟨e * t, Int.mul_pos he ht, ?_⟩
        rw [Prod.mk.injEq]
        constructor
        · show (exOf ns f (upN ns n)).1 * e * ((nodeAt ns n).w * t) = (exOf ns f (upN ns n)).1 * (nodeAt ns n).w * (e * t)
          ac_rfl
        · show (exOf ns f (upN ns n)).2 * e * (wsum ns (upN ns n) * t) = (exOf ns f (upN ns n)).2 * wsum ns (upN ns n) * (e * t)
          ac_rfl
theorem mul_exactV {t : Int} (ht : 0 < t) {ns : List Node} (h : GoodC ns) (h2 : GoodC (ns.map (scaleN t))) {n : Nat} (hn : n < ns.length) : exactV (ns.map (scaleN t)) n = exactV ns n := by
  rw [← red_exN h hn, ← red_exN h2 (by rw [List.length_map]; exact hn)]
  obtain ⟨e, he, hh⟩ := mul_exOf ht ns n n
  obtain ⟨i1, _⟩ := exN_den h n hn
  unfold exN
  rw [hh]
  exact red_scale (p := (exOf ns n n).1) (q := (exOf ns n n).2) (by unfold exN at i1; omega) he
/-- The first k have been multiplied. -/
def mulTo (t : Int) (ns : List Node) (k : Nat) : List Node := (ns.take k).map (scaleN t) ++ ns.drop k
theorem mulTo_len (t : Int) (ns : List Node) (k : Nat) : (mulTo t ns k).length = ns.length := by
  unfold mulTo
  rw [List.length_append, List.length_map, ← List.length_append, List.take_append_drop]
theorem mulTo_zero (t : Int) (ns : List Node) : mulTo t ns 0 = ns := by simp [mulTo]
theorem mulTo_all (t : Int) (ns : List Node) : mulTo t ns ns.length = ns.map (scaleN t) := by simp [mulTo]
theorem mulTo_at {t : Int} {ns : List Node} {k : Nat} (hk : k < ns.length) : (mulTo t ns k)[k]? = some (nodeAt ns k) := by
  unfold mulTo
  rw [List.getElem?_append_right (by rw [List.length_map, List.length_take]; omega), List.length_map, List.length_take, List.getElem?_drop]
  rw [show k + (k - min k ns.length) = k by omega]
  exact GoodC.at_ hk
theorem mulTo_set {t : Int} {ns : List Node} {k : Nat} (hk : k < ns.length) : mulTo t ns (k + 1) = (mulTo t ns k).set k (scaleN t (nodeAt ns k)) := by
  unfold mulTo
  have hx : ns[k]? = some (nodeAt ns k) := GoodC.at_ hk
  have hd : ns.drop k = nodeAt ns k :: ns.drop (k + 1) := by
    rw [List.drop_eq_getElem_cons hk]
    congr 1
    rw [List.getElem?_eq_getElem hk] at hx
    exact Option.some.inj hx
  rw [List.take_add_one, hx, hd, List.set_append_right _ _ (by rw [List.length_map, List.length_take]; omega), List.length_map, List.length_take]
  rw [show k - min k ns.length = 0 by omega]
  simp
end Go.Proofs.Ytohoonbbjkefaaa
