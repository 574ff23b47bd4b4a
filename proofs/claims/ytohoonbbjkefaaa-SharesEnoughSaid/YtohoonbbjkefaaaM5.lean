import Derived.Test.YtohoonbbjkefaaaM4
namespace Go.Proofs.Ytohoonbbjkefaaa

/-! One penny more. -/
theorem lFix_zero (l : List Node) (hf : ∀ x ∈ l, 0 ≤ x.f) : (lFix 0 l).2 = 0 := by
  have := lFix_bd l hf 0 (by omega)
  omega
/-- The Fixed, of one penny more: all the same and one more is left; or nothing is left, and one gets it. -/
theorem lFix_step (l : List Node) (hf : ∀ x ∈ l, 0 ≤ x.f) : ∀ P, 0 ≤ P →
    ((lFix (P + 1) l).1 = (lFix P l).1 ∧ (lFix (P + 1) l).2 = (lFix P l).2 + 1) ∨
    ((lFix P l).2 = 0 ∧ (lFix (P + 1) l).2 = 0 ∧ ∀ i : Nat, (lFix P l).1[i]?.getD 0 ≤ (lFix (P + 1) l).1[i]?.getD 0 ∧ (lFix (P + 1) l).1[i]?.getD 0 ≤ (lFix P l).1[i]?.getD 0 + 1) := by
  induction l with
  | nil => intro P _; exact .inl ⟨rfl, rfl⟩
  | cons x xs ih =>
    intro P hP
    have hx := hf x (by simp)
    have hxs : ∀ y ∈ xs, 0 ≤ y.f := fun y hy => hf y (by simp [hy])
    by_cases hlt : P < x.f
    · have e1 : gmin x.f P = P := by unfold gmin; split <;> omega
      have e2 : gmin x.f (P + 1) = P + 1 := by unfold gmin; split <;> omega
      refine .inr ⟨?_, ?_, fun i => ?_⟩
      · simp only [lFix, e1, Int.sub_self]; exact lFix_zero xs hxs
      · simp only [lFix, e2, Int.sub_self]; exact lFix_zero xs hxs
      · simp only [lFix, e1, e2, Int.sub_self]
        cases i with
        | zero => simp; omega
        | succ i => simp; omega
    · have e1 : gmin x.f P = x.f := by unfold gmin; split <;> omega
      have e2 : gmin x.f (P + 1) = x.f := by unfold gmin; split <;> omega
      have e3 : P + 1 - x.f = P - x.f + 1 := by omega
      simp only [lFix, e1, e2, e3]
      rcases ih hxs (P - x.f) (by omega) with ⟨h1, h2⟩ | ⟨h1, h2, h3⟩
      · exact .inl ⟨by rw [h1], h2⟩
      · refine .inr ⟨h1, h2, fun i => ?_⟩
        cases i with
        | zero => simp; omega
        | succ i => simpa using h3 i

theorem lFin_at (R sm : Int) : ∀ (l : List (Int × Node)) (o : Int) (i : Nat) (p : Int × Node), l[i]? = some p →
    (lFin R sm o l)[i]?.getD 0 = p.1 + R * p.2.w / sm + (if 0 < p.2.w ∧ lPos ((l.take i).map (·.2)) < o then 1 else 0)
  | [], o, i, p, h => by simp at h
  | (b, x) :: xs, o, 0, p, h => by
    simp at h
    subst h
    simp only [lFin, List.take_zero, List.map_nil, lPos, List.sum_nil]
    split <;> simp
  | (b, x) :: xs, o, i + 1, p, h => by
    have hp : xs[i]? = some p := by simpa using h
    have hn := lPos_nonneg ((xs.take i).map (·.2))
    simp only [lFin]
    split
    · rename_i hc
      have e : lPos (((b, x) :: xs).take (i + 1) |>.map (·.2)) = 1 + lPos ((xs.take i).map (·.2)) := by
        simp only [List.take_succ_cons, List.map_cons, lPos, List.sum_cons, if_pos hc.1]
      rw [e, List.getElem?_cons_succ, lFin_at R sm xs (o - 1) i p hp]
      congr 1
      by_cases h1 : 0 < p.2.w ∧ lPos ((xs.take i).map (·.2)) < o - 1
      · rw [if_pos h1, if_pos ⟨h1.1, by omega⟩]
      · rw [if_neg h1, if_neg (fun h2 => h1 ⟨h2.1, by omega⟩)]
    · rename_i hc
      rw [List.getElem?_cons_succ, lFin_at R sm xs o i p hp]
      congr 1
      by_cases hw : 0 < x.w
      · have ho : ¬ 0 < o := fun h => hc ⟨hw, h⟩
        have hn2 := lPos_nonneg ((((b, x) :: xs).take (i + 1)).map (·.2))
        rw [if_neg (fun h2 => by omega), if_neg (fun h2 => by omega)]
      · have e : lPos ((((b, x) :: xs).take (i + 1)).map (·.2)) = lPos ((xs.take i).map (·.2)) := by
          simp only [List.take_succ_cons, List.map_cons, lPos, List.sum_cons, if_neg hw]; omega
        rw [e]

theorem quo_step {R w s : Int} (hw : 0 ≤ w) (hws : w ≤ s) (hs : 0 < s) : R * w / s ≤ (R + 1) * w / s ∧ (R + 1) * w / s ≤ R * w / s + 1 := by
  have e : (R + 1) * w = R * w + w := by rw [Int.add_mul, Int.one_mul]
  rw [e]
  refine ⟨Int.ediv_le_ediv hs (by omega), ?_⟩
  have h1 : R * w + w ≤ R * w + s := by omega
  have h2 := Int.ediv_le_ediv hs h1
  have h3 : (R * w + s) / s = R * w / s + 1 := by
    have := Int.add_mul_ediv_right (R * w) 1 (show s ≠ 0 by omega)
    rw [Int.one_mul] at this
    exact this
  omega
theorem sum_step (R s : Int) (hs : 0 < s) : ∀ (l : List Node), (∀ x ∈ l, 0 ≤ x.w ∧ x.w ≤ s) → ∀ (i : Nat) (x : Node), l[i]? = some x →
    (l.map fun y => R * y.w / s).sum + ((R + 1) * x.w / s - R * x.w / s) ≤ (l.map fun y => (R + 1) * y.w / s).sum
  | [], _, i, x, h => by simp at h
  | y :: ys, hl, 0, x, h => by
    simp at h
    subst h
    simp only [List.map_cons, List.sum_cons]
    have : ∀ (l : List Node), (∀ x ∈ l, 0 ≤ x.w ∧ x.w ≤ s) → (l.map fun y => R * y.w / s).sum ≤ (l.map fun y => (R + 1) * y.w / s).sum := by
      intro l
      induction l with
      | nil => intro _; simp
      | cons z zs ih =>
        intro hz
        have h1 := ih (fun a ha => hz a (by simp [ha]))
        have h2 := quo_step (R := R) (hz z (by simp)).1 (hz z (by simp)).2 hs
        simp only [List.map_cons, List.sum_cons]
        omega
    have := this ys (fun a ha => hl a (by simp [ha]))
    omega
  | y :: ys, hl, i + 1, x, h => by
    have h1 := sum_step R s hs ys (fun a ha => hl a (by simp [ha])) i x (by simpa using h)
    have h2 := quo_step (R := R) (hl y (by simp)).1 (hl y (by simp)).2 hs
    simp only [List.map_cons, List.sum_cons]
    omega
theorem lFin_zero (sm : Int) : ∀ (l : List (Int × Node)), lFin 0 sm 0 l = l.map (·.1)
  | [] => rfl
  | (b, x) :: xs => by simp [lFin, lFin_zero sm xs]
theorem lOdd_zero (sm : Int) (l : List Node) : lOdd 0 sm l = 0 := by
  unfold lOdd
  have : (l.map fun x => 0 * x.w / sm) = l.map (fun _ => (0 : Int)) := by simp
  rw [this]
  have h2 : ∀ (l : List Node), (l.map (fun _ => (0 : Int))).sum = 0 := by
    intro l
    induction l with
    | nil => rfl
    | cons x xs ih => simp only [List.map_cons, List.sum_cons, ih]; rfl
  rw [h2]; rfl
theorem near_abs {a b c d e f : Int} (h1 : a = b) (hd : c = d ∨ c = d + 1) (h : c = d + 1 → e ≤ f) (he : e = 0 ∨ e = 1) (hf : f = 0 ∨ f = 1) : b + d + f - 1 ≤ a + c + e ∧ a + c + e ≤ b + d + f + 1 := by
  rcases hd with hd | hd <;> rcases he with he | he <;> rcases hf with hf | hf <;> (try have := h hd) <;> omega
/-- **Of one penny more no part is more than 1 more, or more than 1 less.** -/
theorem splitL_near (l : List Node) (hw : ∀ x ∈ l, 0 ≤ x.w) (hf : ∀ x ∈ l, 0 ≤ x.f) (P : Int) (hP : 0 ≤ P) (i : Nat) :
    (splitL P l).1[i]?.getD 0 - 1 ≤ (splitL (P + 1) l).1[i]?.getD 0 ∧ (splitL (P + 1) l).1[i]?.getD 0 ≤ (splitL P l).1[i]?.getD 0 + 1 := by
  by_cases hi : i < l.length
  · by_cases hs : 0 < lSum l
    · have hx : l[i]? = some l[i] := List.getElem?_eq_getElem hi
      have hws : ∀ x ∈ l, 0 ≤ x.w ∧ x.w ≤ lSum l := fun x hx => ⟨hw x hx, le_sum (l.map (·.w)) (fun v hv => by obtain ⟨y, hy, rfl⟩ := List.mem_map.1 hv; exact hw y hy) _ (List.mem_map.2 ⟨x, hx, rfl⟩)⟩
      unfold splitL
      rw [if_pos hs, if_pos hs]
      simp only
      rcases lFix_step l hf P hP with ⟨h1, h2⟩ | ⟨h1, h2, h3⟩
      · rw [h1, h2]
        have hb : ((lFix P l).1.zip l)[i]? = some ((lFix P l).1[i]'(by rw [lFix_len]; exact hi), l[i]) := by
          rw [List.getElem?_zip_eq_some]
          exact ⟨List.getElem?_eq_getElem _, hx⟩
        rw [lFin_at _ _ _ _ i _ hb, lFin_at _ _ _ _ i _ hb]
        have hq := quo_step (R := (lFix P l).2) (hws _ (List.getElem_mem hi)).1 (hws _ (List.getElem_mem hi)).2 hs
        have ho : (((lFix P l).2 + 1) * l[i].w / lSum l = (lFix P l).2 * l[i].w / lSum l + 1) → lOdd ((lFix P l).2 + 1) (lSum l) l ≤ lOdd (lFix P l).2 (lSum l) l := by
          intro he
          have := sum_step (lFix P l).2 (lSum l) hs l hws i _ hx
          unfold lOdd
          omega
        refine near_abs rfl (by simp only; omega) (fun he => ?_) (by split <;> simp) (by split <;> simp)
        have := ho he
        split
        · rename_i h4
          rw [if_pos ⟨h4.1, by omega⟩]
          exact Int.le_refl _
        · split <;> omega
      · rw [h1, h2, lOdd_zero, lFin_zero, lFin_zero, List.map_fst_zip (by rw [lFix_len]; exact Nat.le_refl _), List.map_fst_zip (by rw [lFix_len]; exact Nat.le_refl _)]
        have := h3 i
        omega
    · unfold splitL
      rw [if_neg hs, if_neg hs]
      rcases lFix_step l hf P hP with ⟨h1, h2⟩ | ⟨h1, h2, h3⟩
      · rw [h1]; omega
      · have := h3 i; omega
  · have e : ∀ Q, (splitL Q l).1[i]? = none := fun Q => List.getElem?_eq_none (by rw [splitL_len]; omega)
    rw [e, e]
    simp
theorem look_near (n : Nat) : ∀ (ks : List Nat) (vs us : List Int), vs.length = us.length → (∀ i : Nat, vs[i]?.getD 0 - 1 ≤ us[i]?.getD 0 ∧ us[i]?.getD 0 ≤ vs[i]?.getD 0 + 1) →
    look n (ks.zip vs) - 1 ≤ look n (ks.zip us) ∧ look n (ks.zip us) ≤ look n (ks.zip vs) + 1
  | [], vs, us, _, _ => by simp [look]
  | k :: ks, [], [], _, _ => by simp [look]
  | k :: ks, v :: vs, u :: us, hl, h => by
    have ih := look_near n ks vs us (by simpa using hl) (fun i => by simpa using h (i + 1))
    have h0 := h 0
    simp only [List.zip_cons_cons, look]
    split
    · simpa using h0
    · exact ih
theorem gotS_near {ns : List Node} (h : GoodC ns) {p : Int} (hp : 0 ≤ p) : ∀ n, n < ns.length → gotS ns p n - 1 ≤ gotS ns (p + 1) n ∧ gotS ns (p + 1) n ≤ gotS ns p n + 1 := by
  intro n
  induction n using Nat.strongRecOn with
  | _ n ih =>
    intro hn
    by_cases h0 : n = 0
    · subst h0; rw [gotS_zero, gotS_zero]; omega
    · obtain ⟨u1, u2⟩ := h.upN hn (by omega)
      have hi := ih _ u1 (by omega)
      have b1 := (gotS_bd h hp _ (show (nodeAt ns n).u.toNat < ns.length by omega)).1
      have b2 := (gotS_bd h (show 0 ≤ p + 1 by omega) _ (show (nodeAt ns n).u.toNat < ns.length by omega)).1
      rw [gotS_up h p hn (by omega), gotS_up h (p + 1) hn (by omega)]
      generalize gotS ns p (nodeAt ns n).u.toNat = a at *
      generalize gotS ns (p + 1) (nodeAt ns n).u.toNat = b at *
      have hlen : ∀ a b, (splitL a ((kidsN ns (nodeAt ns n).u.toNat).map (nodeAt ns))).1.length = (splitL b ((kidsN ns (nodeAt ns n).u.toNat).map (nodeAt ns))).1.length := fun a b => by rw [splitL_len, splitL_len]
      have hc : b = a ∨ b = a + 1 ∨ a = b + 1 := by omega
      rcases hc with rfl | rfl | rfl
      · omega
      · exact look_near n _ _ _ (hlen _ _) (splitL_near _ (kidW h _) (kidF h _) a b1)
      · have := look_near n (kidsN ns (nodeAt ns n).u.toNat) _ _ (hlen _ _) (splitL_near _ (kidW h _) (kidF h _) b b2)
        omega
end Go.Proofs.Ytohoonbbjkefaaa
