import Derived.Test.YtmbcpmnigggbaaaShB6
import Derived.Test.YtmbcpmnigggbaaaShC5
namespace Go.Proofs.Ytmbcpmnigggbaaa.Sh
/-! One penny more. -/
theorem lFix_zero (l : List Node) (hf : ∀ x ∈ l, 0 ≤ x.f) : (lFix 0 l).2 = 0 := by
  have := lFix_bd l hf 0 (by omega)
  omega
/-- The Fixed, of one penny more: all the same and one more is left; or nothing is left, and one gets it. -/
theorem lFix_step (l : List Node) (hf : ∀ x ∈ l, 0 ≤ x.f) : ∀ P, 0 ≤ P →
    ((lFix (P + 1) l).1 = (lFix P l).1 ∧ (lFix (P + 1) l).2 = (lFix P l).2 + 1) ∨
    ((lFix P l).2 = 0 ∧ (lFix (P + 1) l).2 = 0 ∧ ∀ i : Nat, (lFix P l).1[i]?.getD 0 ≤ (lFix (P + 1) l).1[i]?.getD 0 ∧ (lFix (P + 1) l).1[i]?.getD 0 ≤ (lFix P l).1[i]?.getD 0 + 1) := by
  induction l with
  | nil => intro P _; exact .inl ⟨rfl, rfl⟩
  | cons x xs ih =>
    intro P hP
    have hx := hf x (by simp)
    have hxs : ∀ y ∈ xs, 0 ≤ y.f := fun y hy => hf y (by simp [hy])
    by_cases hlt : P < x.f
    · have e1 : gmin x.f P = P := by unfold gmin; split <;> omega
      have e2 : gmin x.f (P + 1) = P + 1 := by unfold gmin; split <;> omega
      refine .inr ⟨?_, ?_, fun i => ?_⟩
      · simp only [lFix, e1, Int.sub_self]; exact lFix_zero xs hxs
      · simp only [lFix, e2, Int.sub_self]; exact lFix_zero xs hxs
      · simp only [lFix, e1, e2, Int.sub_self]
        cases i with
        | zero => simp; omega
        | succ i => simp; omega
    · have e1 : gmin x.f P = x.f := by unfold gmin; split <;> omega
      have e2 : gmin x.f (P + 1) = x.f := by unfold gmin; split <;> omega
      have e3 : P + 1 - x.f = P - x.f + 1 := by omega
      simp only [lFix, e1, e2, e3]
      rcases ih hxs (P - x.f) (by omega) with ⟨h1, h2⟩ | ⟨h1, h2, h3⟩
      · exact .inl ⟨by rw [h1], h2⟩
      · refine .inr ⟨h1, h2, fun i => ?_⟩
        cases i with
        | zero => simp; omega
        | succ i => simpa using h3 i

theorem lFin_at (R sm : Int) : ∀ (l : List (Int × Node)) (o : Int) (i : Nat) (p : Int × Node), l[i]? = some p →
    (lFin R sm o l)[i]?.getD 0 = p.1 + R * p.2.w / sm + (if 0 < p.2.w ∧ lPos ((l.take i).map (·.2)) < o then 1 else 0)
  | [], o, i, p, h => by simp at h
  | (b, x) :: xs, o, 0, p, h => by
    simp at h
    subst h
    simp only [lFin, List.take_zero, List.map_nil, lPos, List.sum_nil]
    split <;> simp
  | (b, x) :: xs, o, i + 1, p, h => by
    have hp : xs[i]? = some p := by simpa using h
    have hn := lPos_nonneg ((xs.take i).map (·.2))
    simp only [lFin]
    split
    · rename_i hc
      have e : lPos (((b, x) :: xs).take (i + 1) |>.map (·.2)) = 1 + lPos ((xs.take i).map (·.2)) := by
        simp only [List.take_succ_cons, List.map_cons, lPos, List.sum_cons, if_pos hc.1]
      rw [e, List.getElem?_cons_succ, lFin_at R sm xs (o - 1) i p hp]
      congr 1
      by_cases h1 : 0 < p.2.w ∧ lPos ((xs.take i).map (·.2)) < o - 1
      · rw [if_pos h1, if_pos ⟨h1.1, by omega⟩]
      · rw [if_neg h1, if_neg (fun h2 => h1 ⟨h2.1, by omega⟩)]
    · rename_i hc
      rw [List.getElem?_cons_succ, lFin_at R sm xs o i p hp]
      congr 1
      by_cases hw : 0 < x.w
      · have ho : ¬ 0 < o := fun h => hc ⟨hw, h⟩
        have hn2 := lPos_nonneg ((((b, x) :: xs).take (i + 1)).map (·.2))
        rw [if_neg (fun h2 => by omega), if_neg (fun h2 => by omega)]
      · have e : lPos ((((b, x) :: xs).take (i + 1)).map (·.2)) = lPos ((xs.take i).map (·.2)) := by
          simp only [List.take_succ_cons, List.map_cons, lPos, List.sum_cons, if_neg hw]; omega
        rw [e]

theorem quo_step {R w s : Int} (hw : 0 ≤ w) (hws : w ≤ s) (hs : 0 < s) : R * w / s ≤ (R + 1) * w / s ∧ (R + 1) * w / s ≤ R * w / s + 1 := by
  have e : (R + 1) * w = R * w + w := by rw [Int.add_mul, Int.one_mul]
  rw [e]
  refine ⟨Int.ediv_le_ediv hs (by omega), ?_⟩
  have h1 : R * w + w ≤ R * w + s := by omega
  have h2 := Int.ediv_le_ediv hs h1
  have h3 : (R * w + s) / s = R * w / s + 1 := by
    have := Int.add_mul_ediv_right (R * w) 1 (show s ≠ 0 by omega)
    rw [Int.one_mul] at this
    exact this
  omega
theorem sum_step (R s : Int) (hs : 0 < s) : ∀ (l : List Node), (∀ x ∈ l, 0 ≤ x.w ∧ x.w ≤ s) → ∀ (i : Nat) (x : Node), l[i]? = some x →
    (l.map fun y => R * y.w / s).sum + ((R + 1) * x.w / s - R * x.w / s) ≤ (l.map fun y => (R + 1) * y.w / s).sum
  | [], _, i, x, h => by simp at h
  | y :: ys, hl, 0, x, h => by
    simp at h
    subst h
    simp only [List.map_cons, List.sum_cons]
    have : ∀ (l : List Node), (∀ x ∈ l, 0 ≤ x.w ∧ x.w ≤ s) → (l.map fun y => R * y.w / s).sum ≤ (l.map fun y => (R + 1) * y.w / s).sum := by
      intro l
      induction l with
      | nil => intro _; simp
      | cons z zs ih =>
        intro hz
        have h1 := ih (fun a ha => hz a (by simp [ha]))
        have h2 := quo_step (R := R) (hz z (by simp)).1 (hz z (by simp)).2 hs
        simp only [List.map_cons, List.sum_cons]
        omega
    have := this ys (fun a ha => hl a (by simp [ha]))
    omega
  | y :: ys, hl, i + 1, x, h => by
    have h1 := sum_step R s hs ys (fun a ha => hl a (by simp [ha])) i x (by simpa using h)
    have h2 := quo_step (R := R) (hl y (by simp)).1 (hl y (by simp)).2 hs
    simp only [List.map_cons, List.sum_cons]
    omega
theorem lFin_zero (sm : Int) : ∀ (l : List (Int × Node)), lFin 0 sm 0 l = l.map (·.1)
  | [] => rfl
  | (b, x) :: xs => by simp [lFin, lFin_zero sm xs]
theorem lOdd_zero (sm : Int) (l : List Node) : lOdd 0 sm l = 0 := by
  unfold lOdd
  have : (l.map fun x => 0 * x.w / sm) = l.map (fun _ => (0 : Int)) := by simp
  rw [this]
  have h2 : ∀ (l : List Node), (l.map (fun _ => (0 : Int))).sum = 0 := by
    intro l
    induction l with
    | nil => rfl
    | cons x xs ih => simp only [List.map_cons, List.sum_cons, ih]; rfl
  rw [h2]; rfl
theorem near_abs {a b c d e f : Int} (h1 : a = b) (hd : c = d ∨ c = d + 1) (h : c = d + 1 → e ≤ f) (he : e = 0 ∨ e = 1) (hf : f = 0 ∨ f = 1) : b + d + f - 1 ≤ a + c + e ∧ a + c + e ≤ b + d + f + 1 := by
  rcases hd with hd | hd <;> rcases he with he | he <;> rcases hf with hf | hf <;> (try have := h hd) <;> omega
/-- **Of one penny more no part is more than 1 more, or more than 1 less.** -/
theorem splitL_near (l : List Node) (hw : ∀ x ∈ l, 0 ≤ x.w) (hf : ∀ x ∈ l, 0 ≤ x.f) (P : Int) (hP : 0 ≤ P) (i : Nat) :
    (splitL P l).1[i]?.getD 0 - 1 ≤ (splitL (P + 1) l).1[i]?.getD 0 ∧ (splitL (P + 1) l).1[i]?.getD 0 ≤ (splitL P l).1[i]?.getD 0 + 1 := by
  by_cases hi : i < l.length
  · by_cases hs : 0 < lSum l
    · have hx : l[i]? = some l[i] := List.getElem?_eq_getElem hi
      have hws : ∀ x ∈ l, 0 ≤ x.w ∧ x.w ≤ lSum l := fun x hx => ⟨hw x hx, le_sum (l.map (·.w)) (fun v hv => by obtain ⟨y, hy, rfl⟩ := List.mem_map.1 hv; exact hw y hy) _ (List.mem_map.2 ⟨x, hx, rfl⟩)⟩
      unfold splitL
      rw [if_pos hs, if_pos hs]
      simp only
      rcases lFix_step l hf P hP with ⟨h1, h2⟩ | ⟨h1, h2, h3⟩
      · rw [h1, h2]
        have hb : ((lFix P l).1.zip l)[i]? = some ((lFix P l).1[i]'(by rw [lFix_len]; exact hi), l[i]) := by
          rw [List.getElem?_zip_eq_some]
          exact ⟨List.getElem?_eq_getElem _, hx⟩
        rw [lFin_at _ _ _ _ i _ hb, lFin_at _ _ _ _ i _ hb]
        have hq := quo_step (R := (lFix P l).2) (hws _ (List.getElem_mem hi)).1 (hws _ (List.getElem_mem hi)).2 hs
        have ho : (((lFix P l).2 + 1) * l[i].w / lSum l = (lFix P l).2 * l[i].w / lSum l + 1) → lOdd ((lFix P l).2 + 1) (lSum l) l ≤ lOdd (lFix P l).2 (lSum l) l := by
          intro he
          have := sum_step (lFix P l).2 (lSum l) hs l hws i _ hx
          unfold lOdd
          omega
        refine near_abs rfl (by simp only; omega) (fun he => ?_) (by split <;> simp) (by split <;> simp)
        have := ho he
        split
        · rename_i h4
          rw [if_pos ⟨h4.1, by omega⟩]
          exact Int.le_refl _
        · split <;> omega
      · rw [h1, h2, lOdd_zero, lFin_zero, lFin_zero, List.map_fst_zip (by rw [lFix_len]; exact Nat.le_refl _), List.map_fst_zip (by rw [lFix_len]; exact Nat.le_refl _)]
        have := h3 i
        omega
    · unfold splitL
      rw [if_neg hs, if_neg hs]
      rcases lFix_step l hf P hP with ⟨h1, h2⟩ | ⟨h1, h2, h3⟩
      · rw [h1]; omega
      · have := h3 i; omega
  · have e : ∀ Q, (splitL Q l).1[i]? = none := fun Q => List.getElem?_eq_none (by rw [splitL_len]; omega)
    rw [e, e]
    simp
theorem look_near (n : Nat) : ∀ (ks : List Nat) (vs us : List Int), vs.length = us.length → (∀ i : Nat, vs[i]?.getD 0 - 1 ≤ us[i]?.getD 0 ∧ us[i]?.getD 0 ≤ vs[i]?.getD 0 + 1) →
    look n (ks.zip vs) - 1 ≤ look n (ks.zip us) ∧ look n (ks.zip us) ≤ look n (ks.zip vs) + 1
  | [], vs, us, _, _ => by simp [look]
  | k :: ks, [], [], _, _ => by simp [look]
  | k :: ks, v :: vs, u :: us, hl, h => by
    have ih := look_near n ks vs us (by simpa using hl) (fun i => by simpa using h (i + 1))
    have h0 := h 0
    simp only [List.zip_cons_cons, look]
    split
    · simpa using h0
    · exact ih
theorem gotS_near {ns : List Node} (h : GoodC ns) {p : Int} (hp : 0 ≤ p) : ∀ n, n < ns.length → gotS ns p n - 1 ≤ gotS ns (p + 1) n ∧ gotS ns (p + 1) n ≤ gotS ns p n + 1 := by
  intro n
  induction n using Nat.strongRecOn with
  | _ n ih =>
    intro hn
    by_cases h0 : n = 0
    · subst h0; rw [gotS_zero, gotS_zero]; omega
    · obtain ⟨u1, u2⟩ := h.upN hn (by omega)
      have hi := ih _ u1 (by omega)
      have b1 := (gotS_bd h hp _ (show (nodeAt ns n).u.toNat < ns.length by omega)).1
      have b2 := (gotS_bd h (show 0 ≤ p + 1 by omega) _ (show (nodeAt ns n).u.toNat < ns.length by omega)).1
      rw [gotS_up h p hn (by omega), gotS_up h (p + 1) hn (by omega)]
      generalize gotS ns p (nodeAt ns n).u.toNat = a at *
      generalize gotS ns (p + 1) (nodeAt ns n).u.toNat = b at *
      have hlen : ∀ a b, (splitL a ((kidsN ns (nodeAt ns n).u.toNat).map (nodeAt ns))).1.length = (splitL b ((kidsN ns (nodeAt ns n).u.toNat).map (nodeAt ns))).1.length := fun a b => by rw [splitL_len, splitL_len]
      have hc : b = a ∨ b = a + 1 ∨ a = b + 1 := by omega
      rcases hc with rfl | rfl | rfl
      · omega
      · exact look_near n _ _ _ (hlen _ _) (splitL_near _ (kidW h _) (kidF h _) a b1)
      · have := look_near n (kidsN ns (nodeAt ns n).u.toNat) _ _ (hlen _ _) (splitL_near _ (kidW h _) (kidF h _) b b2)
        omega
/-! The first ones. -/
theorem rem_zero (R sm : Int) (hs : 0 < sm) : ∀ (l : List Node), (∀ x ∈ l, 0 ≤ x.w) → (l.map fun x => R * x.w % sm).sum = 0 → ∀ x ∈ l, R * x.w % sm = 0
  | [], _, _, x, hx => by simp at hx
  | y :: ys, hw, h, x, hx => by
    simp only [List.map_cons, List.sum_cons] at h
    have h1 : 0 ≤ R * y.w % sm := Int.emod_nonneg _ (by omega)
    have h2 : ∀ (l : List Node), 0 ≤ (l.map fun x => R * x.w % sm).sum := by
      intro l
      induction l with
      | nil => simp
      | cons z zs ih =>
        have := Int.emod_nonneg (R * z.w) (show sm ≠ 0 by omega)
        simp only [List.map_cons, List.sum_cons]
        omega
    have h3 := h2 ys
    rcases List.mem_cons.1 hx with e | hx
    · rw [e]; omega
    · exact rem_zero R sm hs ys (fun a ha => hw a (List.mem_cons_of_mem _ ha)) (by omega) x hx
theorem rem_sum (R sm : Int) : ∀ (l : List Node), (l.map fun x => R * x.w % sm).sum = R * lSum l - sm * (l.map fun x => R * x.w / sm).sum
  | [] => by simp [lSum]
  | x :: xs => by
    have ih := rem_sum R sm xs
    have hd := Int.mul_ediv_add_emod (R * x.w) sm
    have e1 : lSum (x :: xs) = x.w + lSum xs := by simp [lSum]
    simp only [List.map_cons, List.sum_cons]
    rw [e1, Int.mul_add, Int.mul_add]
    omega
theorem quo_exact {R w s : Int} (hs : 0 < s) (hw : 0 < w) (hws : w ≤ s) (h : (R + 1) * w % s = 0) : (R + 1) * w / s = R * w / s + 1 := by
  have e : (R + 1) * w = R * w + w := by rw [Int.add_mul, Int.one_mul]
  have h1 := Int.emod_add_mul_ediv ((R + 1) * w) s
  rw [h, Int.zero_add] at h1
  have h2 : R * w = s * ((R + 1) * w / s - 1) + (s - w) := by
    rw [Int.mul_sub, h1, e]; omega
  have h3 : R * w / s = (R + 1) * w / s - 1 := by
    rw [h2, Int.add_comm, Int.add_mul_ediv_left _ _ (show s ≠ 0 by omega), Int.ediv_eq_zero_of_lt (by omega) (by omega), Int.zero_add]
  omega
theorem splitL_first (l : List Node) (hw : ∀ x ∈ l, 0 ≤ x.w) (hf : ∀ x ∈ l, 0 ≤ x.f) (P : Int) (hP : 0 ≤ P) (i : Nat) (hi : i < l.length) (hpos : 0 < l[i].w) (hfst : lPos (l.take i) = 0) :
    (splitL P l).1[i]?.getD 0 ≤ (splitL (P + 1) l).1[i]?.getD 0 := by
  have hx : l[i]? = some l[i] := List.getElem?_eq_getElem hi
  have hws : ∀ x ∈ l, 0 ≤ x.w ∧ x.w ≤ lSum l := fun x hx => ⟨hw x hx, le_sum (l.map (·.w)) (fun v hv => by obtain ⟨y, hy, rfl⟩ := List.mem_map.1 hv; exact hw y hy) _ (List.mem_map.2 ⟨x, hx, rfl⟩)⟩
  have hwi := hws _ (List.getElem_mem hi)
  have hs : 0 < lSum l := by omega
  unfold splitL
  rw [if_pos hs, if_pos hs]
  simp only
  rcases lFix_step l hf P hP with ⟨h1, h2⟩ | ⟨h1, h2, h3⟩
  · rw [h1, h2]
    have hb : ((lFix P l).1.zip l)[i]? = some ((lFix P l).1[i]'(by rw [lFix_len]; exact hi), l[i]) := by
      rw [List.getElem?_zip_eq_some]
      exact ⟨List.getElem?_eq_getElem _, hx⟩
    have ht : lPos ((((lFix P l).1.zip l).take i).map (·.2)) = 0 := by
      rw [List.map_take, List.map_snd_zip (by rw [lFix_len]; exact Nat.le_refl _)]
      exact hfst
    rw [lFin_at _ _ _ _ i _ hb, lFin_at _ _ _ _ i _ hb, ht]
    have hq := quo_step (R := (lFix P l).2) hwi.1 hwi.2 hs
    have hR := (lFix_bd l hf P hP).1
    have hodd := (lOdd_bd ((lFix P l).2 + 1) l hw hs).1
    have hex : lOdd ((lFix P l).2 + 1) (lSum l) l = 0 → ((lFix P l).2 + 1) * l[i].w / lSum l = (lFix P l).2 * l[i].w / lSum l + 1 := by
      intro h0
      refine quo_exact hs hpos hwi.2 (rem_zero _ _ hs l hw ?_ _ (List.getElem_mem hi))
      rw [rem_sum]
      unfold lOdd at h0
      have h5 : (l.map fun x => ((lFix P l).2 + 1) * x.w / lSum l).sum = (lFix P l).2 + 1 := by omega
      rw [h5, Int.mul_comm]
      omega
    simp only
    by_cases ho : 0 < lOdd ((lFix P l).2 + 1) (lSum l) l
    · split <;> split <;> omega
    · have := hex (by omega)
      split <;> split <;> omega
  · rw [h1, h2, lOdd_zero, lFin_zero, lFin_zero, List.map_fst_zip (by rw [lFix_len]; exact Nat.le_refl _), List.map_fst_zip (by rw [lFix_len]; exact Nat.le_refl _)]
    have := h3 i
    omega

theorem look_at : ∀ (ks : List Nat) (vs : List Int) (i n : Nat), ks.Nodup → ks[i]? = some n → vs.length = ks.length → look n (ks.zip vs) = vs[i]?.getD 0
  | [], _, i, n, _, h, _ => by simp at h
  | k :: ks, [], _, _, _, _, hl => by simp at hl
  | k :: ks, v :: vs, 0, n, _, h, _ => by
    simp at h
    simp [look, h]
  | k :: ks, v :: vs, i + 1, n, hd, h, hl => by
    have h' : ks[i]? = some n := by simpa using h
    have hne : k ≠ n := fun e => (List.nodup_cons.1 hd).1 (e ▸ List.mem_of_getElem? h')
    simp only [List.zip_cons_cons, look]
    rw [if_neg hne, look_at ks vs i n (List.nodup_cons.1 hd).2 h' (by simpa using hl)]
    simp
/-- The first one with a Weight above 0 below a node, or -1. -/
def firstI (ns : List Node) (l : List Nat) : Int := match l.find? (fun i => decide (0 < (nodeAt ns i).w)) with | some i => (i : Int) | none => -1
def isFirstF (ns : List Node) : Nat → Nat → Bool
  | 0, _ => true
  | f + 1, n => if n = 0 then true else if firstI ns (kidsN ns (upN ns n)) = (n : Int) then isFirstF ns f (upN ns n) else false
def isFirstB (ns : List Node) (n : Nat) : Bool := isFirstF ns n n
theorem isFirst_more {ns : List Node} (h : GoodC ns) : ∀ (n f : Nat), n < ns.length → n ≤ f → isFirstF ns f n = isFirstB ns n := by
  intro n
  induction n using Nat.strongRecOn with
  | _ n ih =>
    intro f hn hf
    cases n with
    | zero => cases f <;> simp [isFirstF, isFirstB]
    | succ n =>
      obtain ⟨f, rfl⟩ : ∃ g, f = g + 1 := ⟨f - 1, by omega⟩
      have hu : upN ns (n + 1) < n + 1 := (h.upN hn (by omega)).1
      rw [isFirstB]
      simp only [isFirstF, if_neg (Nat.succ_ne_zero n)]
      rw [ih _ hu f (by omega) (by omega), ih _ hu n (by omega) (by omega)]
theorem isFirst_up {ns : List Node} (h : GoodC ns) {n : Nat} (hn : n < ns.length) (h0 : 0 < n) : isFirstB ns n = if firstI ns (kidsN ns (upN ns n)) = (n : Int) then isFirstB ns (upN ns n) else false := by
  obtain ⟨m, rfl⟩ : ∃ m, n = m + 1 := ⟨n - 1, by omega⟩
  have hu : upN ns (m + 1) < m + 1 := (h.upN hn (by omega)).1
  rw [isFirstB]
  simp only [isFirstF, if_neg (Nat.succ_ne_zero m)]
  rw [isFirst_more h _ m (by omega) (by omega)]
theorem lPos_zero : ∀ (l : List Node), (∀ x ∈ l, ¬ 0 < x.w) → lPos l = 0
  | [], _ => rfl
  | x :: xs, h => by
    have := lPos_zero xs (fun y hy => h y (List.mem_cons_of_mem _ hy))
    have hx := h x (List.mem_cons_self ..)
    simp only [lPos, List.map_cons, List.sum_cons] at this ⊢
    rw [if_neg hx, this]; rfl
/-- **The first ones never fall.** -/
theorem first_mono {ns : List Node} (h : GoodC ns) {p : Int} (hp : 0 ≤ p) : ∀ n, n < ns.length → isFirstB ns n = true → gotS ns p n ≤ gotS ns (p + 1) n := by
  intro n
  induction n using Nat.strongRecOn with
  | _ n ih =>
    intro hn hb
    by_cases h0 : n = 0
    · subst h0; rw [gotS_zero, gotS_zero]; omega
    · obtain ⟨u1, u2⟩ := h.upN hn (by omega)
      have hu : upN ns n < n := u1
      rw [isFirst_up h hn (by omega)] at hb
      split at hb
      · rename_i hfst
        have hi := ih _ hu (by omega) hb
        have hnear := gotS_near h hp (upN ns n) (by omega)
        have b1 := (gotS_bd h hp (upN ns n) (by omega)).1
        rw [gotS_up h p hn (by omega), gotS_up h (p + 1) hn (by omega)]
        change look n ((kidsN ns (upN ns n)).zip (splitL (gotS ns p (upN ns n)) ((kidsN ns (upN ns n)).map (nodeAt ns))).1) ≤ look n ((kidsN ns (upN ns n)).zip (splitL (gotS ns (p + 1) (upN ns n)) ((kidsN ns (upN ns n)).map (nodeAt ns))).1)
        generalize gotS ns p (upN ns n) = a at *
        generalize gotS ns (p + 1) (upN ns n) = b at *
        have hc : b = a ∨ b = a + 1 := by omega
        rcases hc with rfl | rfl
        · exact Int.le_refl _
        · unfold firstI at hfst
          split at hfst
          · rename_i i hfind
            obtain rfl : i = n := by omega
            obtain ⟨hpos, la, lb, hl, hla⟩ := List.find?_eq_some_iff_append.1 hfind
            have hix : (kidsN ns (upN ns i))[la.length]? = some i := by rw [hl]; simp
            have hlt : la.length < ((kidsN ns (upN ns i)).map (nodeAt ns)).length := by rw [List.length_map]; exact (List.getElem?_eq_some_iff.1 hix).1
            have hgi : ((kidsN ns (upN ns i)).map (nodeAt ns))[la.length] = nodeAt ns i := by
              have : ((kidsN ns (upN ns i)).map (nodeAt ns))[la.length]? = some (nodeAt ns i) := by rw [List.getElem?_map, hix]; rfl
              exact (List.getElem?_eq_some_iff.1 this).2
            have hnd := kids_nodup ns (upN ns i)
            rw [look_at _ _ _ _ hnd hix (by rw [splitL_len, List.length_map]), look_at _ _ _ _ hnd hix (by rw [splitL_len, List.length_map])]
            refine splitL_first _ (kidW h _) (kidF h _) a b1 la.length hlt (by rw [hgi]; exact of_decide_eq_true hpos) ?_
            refine lPos_zero _ (fun x hx => ?_)
            rw [hl, ← List.map_take] at hx
            simp only [List.take_left', List.mem_map] at hx
            obtain ⟨j, hj, rfl⟩ := hx
            have := hla j hj
            simpa using this
          · omega
      · cases hb
end Go.Proofs.Ytmbcpmnigggbaaa.Sh
namespace Go.Proofs.Ytmbcpmnigggbaaa.Sh
open Go.RowKit

theorem within2_is (n lo hi : Int) (w : World) (b : Bool) (hb : inR n lo hi = b) : Calls Try.prog 106 #[.int .i64 n, .int .i64 lo, .int .i64 hi] w fun e w' => e = .returned (.bool b) ∧ w = w' := by
  rw [← hb]; exact refWithin2_any n lo hi w
set_option maxRecDepth 100000 in
set_option maxHeartbeats 4000000 in
theorem refCheck_any (A : Option Addr) (c : Nat) (ns : List Node) (hn : ns.length ≤ 1000) (w : World) (hN : Nodes w w.heap.size A ns) : Calls Try.prog 46 #[.agg #[.slice A ns.length c]] w fun e w' => e = .returned (.int .i64 (ckE ns)) ∧ Below w.heap.size w w' := by
  have bC := Boxed.new w 76 (.slice A ns.length c)
  by_cases hl : inR ns.length 1 8 = true
  · have HL := Lib.hid hl
    have HN := Lib.hid hN
    clear hl hN
    go_enter Try.func46, Try.ntmps46
    go_wp2_with (go_at_call 106; refine (within2_is _ _ _ _ _ HL.out).mono ?_; rintro e w' ⟨rfl, rfl⟩)
    go_loopw [3, 4] (fun i _ wr => ∃ k : Nat, k ≤ ns.length ∧ i = .int .i64 k ∧ (∀ j x, j < k → ns[j]? = some x → nodeOK j x = true) ∧ Below (w.heap.size + 1) (w.alloc (.cells #[.slice A ns.length c] 76)) wr) (fun i _ _ => ns.length - (intOf i).toNat)
    case atStart => exact ⟨0, Nat.zero_le _, rfl, fun j x hj => by omega, Below.refl _ _⟩
    case round =>
      obtain ⟨k, hk, rfl, hok, hb⟩ := hrel
      have hwr : w.heap.size + 1 ≤ wr.heap.size := by have := hb.size; simp at this; omega
      have m1 : wr.cell? ⟨w.heap.size, 0, none⟩ = some (.slice A ns.length c) := (hb.cell (p := ⟨w.heap.size, 0, none⟩) (by simp)).trans bC.cell
      have hB0 : Below w.heap.size w wr := ((Below.refl _ w).alloc (Nat.le_refl _) _).trans (hb.mono (by omega))
      by_cases hlt : k < ns.length
      · obtain ⟨x, hx⟩ : ∃ x, ns[k]? = some x := ⟨_, List.getElem?_eq_getElem hlt⟩
        obtain ⟨b, off, rfl, hbb, c1, c2, c3⟩ := HN.out.at_ hx
        have d1 := below_cell hB0 c1
        have d2 := below_cell hB0 c2
        have d3 := below_cell hB0 c3
        have HX := Lib.hid hx
        have HO := Lib.hid hok
        clear hx hok c1 c2 c3
        cases hup : upOK k x <;> cases hw : inR x.w 0 9 <;> cases hf : inR x.f 0 20
        all_goals
          have HUP := Lib.hid hup
          clear hup
          by_cases hk0 : k = 0
          · have hk1 : k ≤ 0 := by omega
            have hkb : ((k : Int) == 0) = true := by simpa using hk0
            have hub : (x.u == -1) = upOK k x := by rw [upOK, if_pos hk0, Bool.eq_iff_iff]; simp
            have hub2 : (x.u != -1) = !upOK k x := by rw [← hub]; rfl
            rw [HUP.out] at hub hub2
            dsimp only [Bool.not] at hub2
            clear hub
            clear hk0
            have hno : Hid (nodeOK k x = _) := Lib.hid (show nodeOK k x = _ from by rw [nodeOK, HUP.out, hw, hf])
            go_wp2_with (go_at_call 106; refine (refWithin2_any _ _ _ _).mono ?_; rintro e w' ⟨rfl, rfl⟩)
            first
              | (go_ret; exact ⟨by rw [ckE_no (validB_bad HX.out hno.out)]; rfl, hB0.alloc (by omega) _⟩)
              | (go_roundw
                 case rel => exact ⟨k + 1, by omega, by go_num, okStep HO.out HX.out hno.out, hb.alloc hwr _⟩
                 case measure => simp [intOf]; omega)
          · have hk1 : 0 < k := by omega
            have hkb : ((k : Int) == 0) = false := by simpa using hk0
            have hub : inR x.u 0 (k - 1) = upOK k x := by rw [upOK, if_neg hk0]
            rw [HUP.out] at hub
            clear hk0
            have hno : Hid (nodeOK k x = _) := Lib.hid (show nodeOK k x = _ from by rw [nodeOK, HUP.out, hw, hf])
            go_wp2_with (go_at_call 106; refine (refWithin2_any _ _ _ _).mono ?_; rintro e w' ⟨rfl, rfl⟩)
            first
              | (go_ret; exact ⟨by rw [ckE_no (validB_bad HX.out hno.out)]; rfl, hB0.alloc (by omega) _⟩)
              | (go_roundw
                 case rel => exact ⟨k + 1, by omega, by go_num, okStep HO.out HX.out hno.out, hb.alloc hwr _⟩
                 case measure => simp [intOf]; omega)
      · obtain rfl : k = ns.length := by omega
        go_wp2
        go_ret
        exact ⟨by rw [ckE_yes (validB_good HL.out (fun i x hx => hok i x (List.getElem?_eq_some_iff.1 hx).1 hx))]; rfl, hB0⟩
  · have hl' : inR ns.length 1 8 = false := by simpa using hl
    have hv : validB ns = false := by simp [validB, hl']
    have HV := Lib.hid hv
    have HL := Lib.hid hl'
    clear hv hl hl'
    go_enter Try.func46, Try.ntmps46
    go_wp2_with (go_at_call 106; refine (within2_is _ _ _ _ _ HL.out).mono ?_; rintro e w' ⟨rfl, rfl⟩)
    go_ret
    exact ⟨by rw [ckE_no HV.out]; rfl, (Below.refl _ _).alloc (Nat.le_refl _) _⟩
open Go.RowKit

theorem far_big (A : Option Addr) (n c : Nat) (w : World) (hn : n ≤ 9223372036854775807) (b : Bool) (hb : decide (40 < n) = b) : Calls Try.prog 45 #[.agg #[.slice A n c]] w fun e w' => e = .returned (.bool b) ∧ Below w.heap.size w w' := by
  go_enter Try.func45, Try.ntmps45
  go_wp2
  go_ret
  exact ⟨by rw [← hb]; simp; omega, (Below.refl _ w).alloc (Nat.le_refl _) _⟩
theorem validB_len {ns : List Node} (h : validB ns = true) : ns.length ≤ 8 := by
  simp only [validB, Bool.and_eq_true, inR_true] at h
  omega
set_option maxRecDepth 100000 in
set_option maxHeartbeats 1000000 in
theorem ready_is (A : Option Addr) (c : Nat) (ns : List Node) (hn : ns.length ≤ 9223372036854775807) (w : World) (hN : Nodes w w.heap.size A ns) (v : Bool) (hv : validB ns = v) :
    Calls Try.prog 36 #[.agg #[.slice A ns.length c]] w fun e w' => e = .returned (.bool v) ∧ Below w.heap.size w w' := by
  have bC := Boxed.new w 76 (.slice A ns.length c)
  by_cases h40 : 40 < ns.length
  · have HF := Lib.hid (far_big A ns.length c (w.alloc (.cells #[.slice A ns.length c] 76)) hn true (by simpa using h40))
    have HV := Lib.hid (show v = false from by
      cases v with
      | false => rfl
      | true => have := validB_len hv; omega)
    clear hv
    go_enter Try.func36, Try.ntmps36
    go_wp2_with (go_at_call 45; go_must (refine HF.out.mono ?_; rintro e w1 ⟨rfl, hb1⟩))
    go_ret
    exact ⟨by rw [HV.out]; rfl, ((Below.refl _ w).alloc (Nat.le_refl _) _).trans (hb1.mono (by simp))⟩
  · have HF := Lib.hid (far_big A ns.length c (w.alloc (.cells #[.slice A ns.length c] 76)) hn false (by simpa using h40))
    have hN1 := Nodes.alloc hN (.cells #[.slice A ns.length c] 76)
    have HN1 := Lib.hid hN1
    clear hN hN1
    cases v
    · have hc := ckE_no hv
      have HC := Lib.hid hc
      clear hc hv
      go_enter Try.func36, Try.ntmps36
      go_wp2_with (first
        | (go_at_call 45; go_must (refine HF.out.mono ?_; rintro e w1 ⟨rfl, hb1⟩; have m1 := (boxed_ext hb1 bC).cell))
        | (go_at_call 46; go_must (refine (refCheck_any A c ns (by omega) w1 (Nodes.lt HN1.out hb1)).mono ?_; rintro e w2 ⟨rfl, hb2⟩; rw [HC.out])))
      go_ret
      exact ⟨rfl, ((Below.refl _ w).alloc (Nat.le_refl _) _).trans ((hb1.trans (hb2.mono hb1.size)).mono (by simp))⟩
    · have hc := ckE_yes hv
      have HC := Lib.hid hc
      clear hc hv
      go_enter Try.func36, Try.ntmps36
      go_wp2_with (first
        | (go_at_call 45; go_must (refine HF.out.mono ?_; rintro e w1 ⟨rfl, hb1⟩; have m1 := (boxed_ext hb1 bC).cell))
        | (go_at_call 46; go_must (refine (refCheck_any A c ns (by omega) w1 (Nodes.lt HN1.out hb1)).mono ?_; rintro e w2 ⟨rfl, hb2⟩; rw [HC.out])))
      go_ret
      exact ⟨rfl, ((Below.refl _ w).alloc (Nat.le_refl _) _).trans ((hb1.trans (hb2.mono hb1.size)).mono (by simp))⟩
theorem penceE_of {ns : List Node} (h : validB ns = true) {p : Int} (hp : 0 ≤ p ∧ p ≤ 400) : penceE ns p = 0 := by
  have hi : inR p 0 400 = true := inR_true.2 hp
  rw [penceE, hi, askE, h]
  simp

open Go.RowKit

/-- The law's own memory: the custom's box; the custom; whatever lay there before. -/
structure Env (w : World) (A : Option Addr) (c : Nat) (ns : List Node) (W : World) : Prop where
  bC : Boxed W w.heap.size 76 (.slice A ns.length c)
  hN : Nodes W W.heap.size A ns
  hb : Below w.heap.size w W
theorem Env.next {w : World} {A : Option Addr} {c : Nat} {ns : List Node} {W W' : World} (h : Env w A c ns W) (hb : Below W.heap.size W W') : Env w A c ns W' :=
  ⟨boxed_ext hb h.bC, Nodes.lt h.hN hb, hb0to h.hb hb⟩
theorem Env.new {w : World} {A : Option Addr} {ns : List Node} (c : Nat) (hN : Nodes w w.heap.size A ns) : Env w A c ns (w.alloc (.cells #[.slice A ns.length c] 76)) :=
  ⟨Boxed.new _ _ _, Nodes.alloc hN _, (Below.refl _ w).alloc (Nat.le_refl _) _⟩
theorem Env.alloc {w : World} {A : Option Addr} {c : Nat} {ns : List Node} {W : World} (h : Env w A c ns W) (o : Obj) : Env w A c ns (W.alloc o) := h.next ((Below.refl _ W).alloc (Nat.le_refl _) o)
theorem refIsNode_is (A : Option Addr) (n c : Nat) (k : Int) (w : World) (hn : n ≤ 1000) (b : Bool) (hb : inR k 0 (n - 1) = b) : Calls Try.prog 50 #[.agg #[.slice A n c], .int .i64 k] w fun e w' => e = .returned (.bool b) ∧ Below w.heap.size w w' := by
  rw [← hb]; exact refIsNode_any A n c k w hn
end Go.Proofs.Ytmbcpmnigggbaaa.Sh
