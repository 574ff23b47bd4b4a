import Derived.Test.YtohoonbbjkefaaaM5
namespace Go.Proofs.Ytohoonbbjkefaaa

/-! The first ones. -/
theorem rem_zero (R sm : Int) (hs : 0 < sm) : ∀ (l : List Node), (∀ x ∈ l, 0 ≤ x.w) → (l.map fun x => R * x.w % sm).sum = 0 → ∀ x ∈ l, R * x.w % sm = 0
  | [], _, _, x, hx => by simp at hx
  | y :: ys, hw, h, x, hx => by
    simp only [List.map_cons, List.sum_cons] at h
    have h1 : 0 ≤ R * y.w % sm := Int.emod_nonneg _ (by omega)
    have h2 : ∀ (l : List Node), 0 ≤ (l.map fun x => R * x.w % sm).sum := by
      intro l
      induction l with
      | nil => simp
      | cons z zs ih =>
        have := Int.emod_nonneg (R * z.w) (show sm ≠ 0 by omega)
        simp only [List.map_cons, List.sum_cons]
        omega
    have h3 := h2 ys
    rcases List.mem_cons.1 hx with e | hx
    · rw [e]; omega
    · exact rem_zero R sm hs ys (fun a ha => hw a (List.mem_cons_of_mem _ ha)) (by omega) x hx
theorem rem_sum (R sm : Int) : ∀ (l : List Node), (l.map fun x => R * x.w % sm).sum = R * lSum l - sm * (l.map fun x => R * x.w / sm).sum
  | [] => by simp [lSum]
  | x :: xs => by
    have ih := rem_sum R sm xs
    have hd := Int.mul_ediv_add_emod (R * x.w) sm
    have e1 : lSum (x :: xs) = x.w + lSum xs := by simp [lSum]
    simp only [List.map_cons, List.sum_cons]
    rw [e1, Int.mul_add, Int.mul_add]
    omega
theorem quo_exact {R w s : Int} (hs : 0 < s) (hw : 0 < w) (hws : w ≤ s) (h : (R + 1) * w % s = 0) : (R + 1) * w / s = R * w / s + 1 := by
  have e : (R + 1) * w = R * w + w := by rw [Int.add_mul, Int.one_mul]
  have h1 := Int.emod_add_mul_ediv ((R + 1) * w) s
  rw [h, Int.zero_add] at h1
  have h2 : R * w = s * ((R + 1) * w / s - 1) + (s - w) := by
    rw [Int.mul_sub, h1, e]; omega
  have h3 : R * w / s = (R + 1) * w / s - 1 := by
    rw [h2, Int.add_comm, Int.add_mul_ediv_left _ _ (show s ≠ 0 by omega), Int.ediv_eq_zero_of_lt (by omega) (by omega), Int.zero_add]
  omega
theorem splitL_first (l : List Node) (hw : ∀ x ∈ l, 0 ≤ x.w) (hf : ∀ x ∈ l, 0 ≤ x.f) (P : Int) (hP : 0 ≤ P) (i : Nat) (hi : i < l.length) (hpos : 0 < l[i].w) (hfst : lPos (l.take i) = 0) :
    (splitL P l).1[i]?.getD 0 ≤ (splitL (P + 1) l).1[i]?.getD 0 := by
  have hx : l[i]? = some l[i] := List.getElem?_eq_getElem hi
  have hws : ∀ x ∈ l, 0 ≤ x.w ∧ x.w ≤ lSum l := fun x hx => ⟨hw x hx, le_sum (l.map (·.w)) (fun v hv => by obtain ⟨y, hy, rfl⟩ := List.mem_map.1 hv; exact hw y hy) _ (List.mem_map.2 ⟨x, hx, rfl⟩)⟩
  have hwi := hws _ (List.getElem_mem hi)
  have hs : 0 < lSum l := by omega
  unfold splitL
  rw [if_pos hs, if_pos hs]
  simp only
  rcases lFix_step l hf P hP with ⟨h1, h2⟩ | ⟨h1, h2, h3⟩
  · rw [h1, h2]
    have hb : ((lFix P l).1.zip l)[i]? = some ((lFix P l).1[i]'(by rw [lFix_len]; exact hi), l[i]) := by
      rw [List.getElem?_zip_eq_some]
      exact ⟨List.getElem?_eq_getElem _, hx⟩
    have ht : lPos ((((lFix P l).1.zip l).take i).map (·.2)) = 0 := by
      rw [List.map_take, List.map_snd_zip (by rw [lFix_len]; exact Nat.le_refl _)]
      exact hfst
    rw [lFin_at _ _ _ _ i _ hb, lFin_at _ _ _ _ i _ hb, ht]
    have hq := quo_step (R := (lFix P l).2) hwi.1 hwi.2 hs
    have hR := (lFix_bd l hf P hP).1
    have hodd := (lOdd_bd ((lFix P l).2 + 1) l hw hs).1
    have hex : lOdd ((lFix P l).2 + 1) (lSum l) l = 0 → ((lFix P l).2 + 1) * l[i].w / lSum l = (lFix P l).2 * l[i].w / lSum l + 1 := by
      intro h0
      refine quo_exact hs hpos hwi.2 (rem_zero _ _ hs l hw ?_ _ (List.getElem_mem hi))
      rw [rem_sum]
      unfold lOdd at h0
      have h5 : (l.map fun x => ((lFix P l).2 + 1) * x.w / lSum l).sum = (lFix P l).2 + 1 := by omega
      rw [h5, Int.mul_comm]
      omega
    simp only
    by_cases ho : 0 < lOdd ((lFix P l).2 + 1) (lSum l) l
    · split <;> split <;> omega
    · have := hex (by omega)
      split <;> split <;> omega
  · rw [h1, h2, lOdd_zero, lFin_zero, lFin_zero, List.map_fst_zip (by rw [lFix_len]; exact Nat.le_refl _), List.map_fst_zip (by rw [lFix_len]; exact Nat.le_refl _)]
    have := h3 i
    omega

theorem look_at : ∀ (ks : List Nat) (vs : List Int) (i n : Nat), ks.Nodup → ks[i]? = some n → vs.length = ks.length → look n (ks.zip vs) = vs[i]?.getD 0
  | [], _, i, n, _, h, _ => by simp at h
  | k :: ks, [], _, _, _, _, hl => by simp at hl
  | k :: ks, v :: vs, 0, n, _, h, _ => by
    simp at h
    simp [look, h]
  | k :: ks, v :: vs, i + 1, n, hd, h, hl => by
    have h' : ks[i]? = some n := by simpa using h
    have hne : k ≠ n := fun e => (List.nodup_cons.1 hd).1 (e ▸ List.mem_of_getElem? h')
    simp only [List.zip_cons_cons, look]
    rw [if_neg hne, look_at ks vs i n (List.nodup_cons.1 hd).2 h' (by simpa using hl)]
    simp
/-- The first one with a Weight above 0 below a node, or -1. -/
def firstI (ns : List Node) (l : List Nat) : Int := match l.find? (fun i => decide (0 < (nodeAt ns i).w)) with | some i => (i : Int) | none => -1
def isFirstF (ns : List Node) : Nat → Nat → Bool
  | 0, _ => true
  | f + 1, n => if n = 0 then true else if firstI ns (kidsN ns (upN ns n)) = (n : Int) then isFirstF ns f (upN ns n) else false
def isFirstB (ns : List Node) (n : Nat) : Bool := isFirstF ns n n
theorem isFirst_more {ns : List Node} (h : GoodC ns) : ∀ (n f : Nat), n < ns.length → n ≤ f → isFirstF ns f n = isFirstB ns n := by
  intro n
  induction n using Nat.strongRecOn with
  | _ n ih =>
    intro f hn hf
    cases n with
    | zero => cases f <;> simp [isFirstF, isFirstB]
    | succ n =>
      obtain ⟨f, rfl⟩ : ∃ g, f = g + 1 := ⟨f - 1, by omega⟩
      have hu : upN ns (n + 1) < n + 1 := (h.upN hn (by omega)).1
      rw [isFirstB]
      simp only [isFirstF, if_neg (Nat.succ_ne_zero n)]
      rw [ih _ hu f (by omega) (by omega), ih _ hu n (by omega) (by omega)]
theorem isFirst_up {ns : List Node} (h : GoodC ns) {n : Nat} (hn : n < ns.length) (h0 : 0 < n) : isFirstB ns n = if firstI ns (kidsN ns (upN ns n)) = (n : Int) then isFirstB ns (upN ns n) else false := by
  obtain ⟨m, rfl⟩ : ∃ m, n = m + 1 := ⟨n - 1, by omega⟩
  have hu : upN ns (m + 1) < m + 1 := (h.upN hn (by omega)).1
  rw [isFirstB]
  simp only [isFirstF, if_neg (Nat.succ_ne_zero m)]
  rw [isFirst_more h _ m (by omega) (by omega)]
theorem lPos_zero : ∀ (l : List Node), (∀ x ∈ l, ¬ 0 < x.w) → lPos l = 0
  | [], _ => rfl
  | x :: xs, h => by
    have := lPos_zero xs (fun y hy => h y (List.mem_cons_of_mem _ hy))
    have hx := h x (List.mem_cons_self ..)
    simp only [lPos, List.map_cons, List.sum_cons] at this ⊢
    rw [if_neg hx, this]; rfl
/-- **The first ones never fall.** -/
theorem first_mono {ns : List Node} (h : GoodC ns) {p : Int} (hp : 0 ≤ p) : ∀ n, n < ns.length → isFirstB ns n = true → gotS ns p n ≤ gotS ns (p + 1) n := by
  intro n
  induction n using Nat.strongRecOn with
  | _ n ih =>
    intro hn hb
    by_cases h0 : n = 0
    · subst h0; rw [gotS_zero, gotS_zero]; omega
    · obtain ⟨u1, u2⟩ := h.upN hn (by omega)
      have hu : upN ns n < n := u1
      rw [isFirst_up h hn (by omega)] at hb
      split at hb
      · rename_i hfst
        have hi := ih _ hu (by omega) hb
        have hnear := gotS_near h hp (upN ns n) (by omega)
        have b1 := (gotS_bd h hp (upN ns n) (by omega)).1
        rw [gotS_up h p hn (by omega), gotS_up h (p + 1) hn (by omega)]
        change look n ((kidsN ns (upN ns n)).zip (splitL (gotS ns p (upN ns n)) ((kidsN ns (upN ns n)).map (nodeAt ns))).1) ≤ look n ((kidsN ns (upN ns n)).zip (splitL (gotS ns (p + 1) (upN ns n)) ((kidsN ns (upN ns n)).map (nodeAt ns))).1)
        generalize gotS ns p (upN ns n) = a at *
        generalize gotS ns (p + 1) (upN ns n) = b at *
        have hc : b = a ∨ b = a + 1 := by omega
        rcases hc with rfl | rfl
        · exact Int.le_refl _
        · unfold firstI at hfst
          split at hfst
          · rename_i i hfind
            obtain rfl : i = n := by omega
            obtain ⟨hpos, la, lb, hl, hla⟩ := List.find?_eq_some_iff_append.1 hfind
            have hix : (kidsN ns (upN ns i))[la.length]? = some i := by rw [hl]; simp
            have hlt : la.length < ((kidsN ns (upN ns i)).map (nodeAt ns)).length := by rw [List.length_map]; exact (List.getElem?_eq_some_iff.1 hix).1
            have hgi : ((kidsN ns (upN ns i)).map (nodeAt ns))[la.length] = nodeAt ns i := by
              have : ((kidsN ns (upN ns i)).map (nodeAt ns))[la.length]? = some (nodeAt ns i) := by rw [List.getElem?_map, hix]; rfl
              exact (List.getElem?_eq_some_iff.1 this).2
            have hnd := kids_nodup ns (upN ns i)
            rw [look_at _ _ _ _ hnd hix (by rw [splitL_len, List.length_map]), look_at _ _ _ _ hnd hix (by rw [splitL_len, List.length_map])]
            refine splitL_first _ (kidW h _) (kidF h _) a b1 la.length hlt (by rw [hgi]; exact of_decide_eq_true hpos) ?_
            refine lPos_zero _ (fun x hx => ?_)
            rw [hl, ← List.map_take] at hx
            simp only [List.take_left', List.mem_map] at hx
            obtain ⟨j, hj, rfl⟩ := hx
            have := hla j hj
            simpa using this
          · omega
      · cases hb
end Go.Proofs.Ytohoonbbjkefaaa
