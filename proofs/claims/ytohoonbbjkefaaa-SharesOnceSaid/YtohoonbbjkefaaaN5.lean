import Derived.Test.YtohoonbbjkefaaaF5
namespace Go.Proofs.Ytohoonbbjkefaaa

/-! The plain law that each is paid once. -/
theorem split_got {ns : List Node} (h : GoodC ns) (P : Int) (n : Nat) : (splitL (gotS ns P n) (kidL ns n)).1 = (kidsN ns n).map (gotS ns P) := by
  have hl : (splitL (gotS ns P n) (kidL ns n)).1.length = (kidsN ns n).length := by rw [splitL_len, kidL_len]
  refine ext_getD (by rw [hl, List.length_map]) (fun j hj => ?_)
  rw [hl] at hj
  obtain ⟨x, hx, hxl, _⟩ := kid_at hj
  have hm := mem_kids.1 (List.mem_of_getElem? hx)
  have hg := gotS_up h P hxl hm.2.1
  have hu : (nodeAt ns x).u.toNat = n := by omega
  rw [hu] at hg
  have hlk := look_at (kidsN ns n) (splitL (gotS ns P n) (kidL ns n)).1 j x (kids_nodup ns n) hx hl
  rw [List.getElem?_map, hx]
  change _ = gotS ns P x
  rw [hg]
  exact hlk.symm
theorem take_sum_bd : ∀ (l : List Int), (∀ v ∈ l, 0 ≤ v) → ∀ j, 0 ≤ (l.take j).sum ∧ (l.take j).sum ≤ l.sum
  | [], _, j => by simp
  | x :: xs, h, 0 => by
    have := take_sum_bd xs (fun v hv => h v (by simp [hv])) 0
    have := h x (by simp)
    simp at *
    omega
  | x :: xs, h, j + 1 => by
    have := take_sum_bd xs (fun v hv => h v (by simp [hv])) j
    have := h x (by simp)
    simp only [List.take_succ_cons, List.sum_cons]
    omega
theorem take_sum_step {l : List Int} {j : Nat} {x : Int} (hx : l[j]? = some x) : (l.take (j + 1)).sum = (l.take j).sum + x := by
  rw [List.take_add_one, hx]
  simp
theorem gots_nonneg {ns : List Node} (h : GoodC ns) {P : Int} (hP : 0 ≤ P) (n : Nat) : ∀ v ∈ (kidsN ns n).map (gotS ns P), 0 ≤ v := fun v hv => by
  obtain ⟨x, hx, rfl⟩ := List.mem_map.1 hv
  exact (gotS_bd h hP x (mem_kids.1 hx).1).1
theorem kept_once {ns : List Node} (h : GoodC ns) {P : Int} (hP : 0 ≤ P) {n : Nat} (hn : n < ns.length) :
    ((kidsN ns n).map (gotS ns P)).sum + keptS ns P n = gotS ns P n ∧ 0 ≤ keptS ns P n ∧ keptS ns P n ≤ P := by
  have hb := gotS_bd h hP n hn
  have h1 := splitL_sum (gotS ns P n) (kidL ns n) hb.1 (kidW h n) (kidF h n)
  have h2 := (splitL_nonneg (gotS ns P n) (kidL ns n) hb.1 (kidW h n) (kidF h n)).2
  rw [split_got h] at h1
  have h3 := (take_sum_bd _ (gots_nonneg h hP n) 0).2
  simp only [List.take_zero, List.sum_nil] at h3
  change ((kidsN ns n).map (gotS ns P)).sum + keptS ns P n = gotS ns P n at h1
  change 0 ≤ keptS ns P n at h2
  omega
def keptSum (ns : List Node) (P : Int) (k : Nat) : Int := ((List.range k).map (keptS ns P)).sum
theorem keptSum_succ (ns : List Node) (P : Int) (k : Nat) : keptSum ns P (k + 1) = keptSum ns P k + keptS ns P k := by simp [keptSum, List.range_succ]
theorem ind_sum (u : Nat) (v : Int) : ∀ N, ((List.range N).map (fun i => if i = u then v else 0)).sum = if u < N then v else 0
  | 0 => by simp
  | N + 1 => by
    rw [List.range_succ, List.map_append, List.sum_append, ind_sum u v N]
    simp only [List.map_cons, List.map_nil, List.sum_cons, List.sum_nil]
    split <;> split <;> split <;> omega
theorem map_sum_add (f g : Nat → Int) : ∀ l : List Nat, (l.map (fun i => f i + g i)).sum = (l.map f).sum + (l.map g).sum
  | [] => by simp
  | x :: xs => by have := map_sum_add f g xs; simp only [List.map_cons, List.sum_cons]; omega
/-- Whoever lies below somebody, counted at each Up, is counted once. -/
theorem kid_sums {ns : List Node} (h : GoodC ns) (g : Nat → Int) : ∀ j, j ≤ ns.length →
    ((List.range ns.length).map (fun i => (((List.range j).filter (isKid ns i)).map g).sum)).sum + (if 0 < j then g 0 else 0) = ((List.range j).map g).sum
  | 0, _ => by
    have : ∀ l : List Nat, (l.map (fun _ => (0 : Int))).sum = 0 := fun l => by induction l with | nil => rfl | cons a t ih => simpa using ih
    simpa using this (List.range ns.length)
  | j + 1, hj => by
    have ih := kid_sums h g j (by omega)
    have e : ∀ i, (((List.range (j + 1)).filter (isKid ns i)).map g).sum = (((List.range j).filter (isKid ns i)).map g).sum + (if i = upN ns j then (if 0 < j then g j else 0) else 0) := fun i => by
      rw [List.range_succ, List.filter_append, List.map_append, List.sum_append]
      congr 1
      by_cases h0 : 0 < j
      · have hu := h.upN (by omega) h0
        have hk : isKid ns i j = decide (i = upN ns j) := by
          unfold isKid upN
          rw [Bool.eq_iff_iff]
          simp only [Bool.and_eq_true, decide_eq_true_eq]
          omega
        by_cases hi : i = upN ns j
        · have hk' : isKid ns i j = true := by rw [hk]; exact decide_eq_true hi
          rw [if_pos hi, if_pos h0]
          simp [hk']
        · have hk' : isKid ns i j = false := by rw [hk]; exact decide_eq_false hi
          rw [if_neg hi]
          simp [hk']
      · simp [isKid, h0]
    have e2 : ((List.range ns.length).map (fun i => (((List.range (j + 1)).filter (isKid ns i)).map g).sum)).sum = ((List.range ns.length).map (fun i => (((List.range j).filter (isKid ns i)).map g).sum)).sum + (if 0 < j then g j else 0) := by
      rw [List.map_congr_left (fun i _ => e i), map_sum_add, ind_sum]
      have hul : upN ns j < ns.length := by
        by_cases h0 : 0 < j
        · have := h.upN (show j < ns.length by omega) h0; unfold upN; omega
        · obtain rfl : j = 0 := by omega
          have := h.top _ (GoodC.at_ (by omega))
          unfold upN
          omega
      rw [if_pos hul]
    rw [e2, List.range_succ, List.map_append, List.sum_append, ← ih]
    simp only [List.map_cons, List.map_nil, List.sum_cons, List.sum_nil]
    by_cases h0 : 0 < j
    · rw [if_pos h0, if_pos h0, if_pos (by omega)]; omega
    · obtain rfl : j = 0 := by omega
      simp
theorem keptSum_all {ns : List Node} (h : GoodC ns) {P : Int} (hP : 0 ≤ P) : keptSum ns P ns.length = P := by
  have h1 := kid_sums h (gotS ns P) ns.length (Nat.le_refl _)
  rw [if_pos (by have := h.l1; omega)] at h1
  have e : (List.range ns.length).map (gotS ns P) = (List.range ns.length).map (fun i => ((kidsN ns i).map (gotS ns P)).sum + keptS ns P i) :=
    List.map_congr_left (fun i hi => ((kept_once h hP (List.mem_range.1 hi)).1).symm)
  rw [e, map_sum_add] at h1
  have e0 : gotS ns P 0 = P := gotS_zero ns P
  rw [e0] at h1
  unfold keptSum
  change _ + P = ((List.range ns.length).map (fun i => (((List.range ns.length).filter (isKid ns i)).map (gotS ns P)).sum)).sum + _ at h1
  omega
theorem keptSum_bd {ns : List Node} (h : GoodC ns) {P : Int} (hP : 0 ≤ P) {k : Nat} (hk : k ≤ ns.length) : 0 ≤ keptSum ns P k ∧ keptSum ns P k ≤ P := by
  have ha := keptSum_all h hP
  have := take_sum_bd ((List.range ns.length).map (keptS ns P)) (fun v hv => by
    obtain ⟨i, hi, rfl⟩ := List.mem_map.1 hv
    exact (kept_once h hP (List.mem_range.1 hi)).2.1) k
  rw [← List.map_take, List.take_range, Nat.min_eq_left hk] at this
  unfold keptSum at *
  omega
end Go.Proofs.Ytohoonbbjkefaaa
