import Derived.Test.YtohoonbbjkefaaaF7
namespace Go.Proofs.Ytohoonbbjkefaaa

/-! The plain law of the parts: denominators are small; parts below a node are together its own. -/
theorem countP_add {α : Type} (p q r : α → Bool) : ∀ (l : List α), (∀ x ∈ l, (if p x then 1 else 0) + (if q x then 1 else 0) ≤ (if r x then 1 else (0 : Nat))) → l.countP p + l.countP q ≤ l.countP r
  | [], _ => by simp
  | x :: xs, h => by
    have ih := countP_add p q r xs (fun y hy => h y (by simp [hy]))
    have hx := h x (by simp)
    simp only [List.countP_cons]
    omega
/-- How many nodes have an Up below k. -/
def upCnt (ns : List Node) (k : Nat) : Nat := (List.range ns.length).countP (fun m => decide (0 < m) && decide (upN ns m < k))
theorem upCnt_step {ns : List Node} (h : GoodC ns) {u k : Nat} (hu : u < k) : upCnt ns u + (kidsN ns u).length ≤ upCnt ns k := by
  unfold upCnt kidsN
  rw [← List.countP_eq_length_filter]
  refine countP_add _ _ _ _ (fun m hm => ?_)
  have hm' := List.mem_range.1 hm
  by_cases h0 : 0 < m
  · have h1 := h.upN hm' h0
    have e : isKid ns u m = decide (upN ns m = u) := by
      unfold isKid upN
      rw [Bool.eq_iff_iff]
      simp only [Bool.and_eq_true, decide_eq_true_eq]
      omega
    rw [e]
    simp only [decide_eq_true h0, Bool.true_and, decide_eq_true_eq]
    by_cases h2 : upN ns m < u
    · rw [if_pos h2, if_neg (by omega), if_pos (by omega)]; omega
    · rw [if_neg h2]
      by_cases h3 : upN ns m = u
      · rw [if_pos h3, if_pos (by omega)]; omega
      · rw [if_neg h3]; omega
  · simp [isKid, h0]
theorem upCnt_le {ns : List Node} (h : GoodC ns) (k : Nat) : upCnt ns k ≤ 7 := by
  have h8 := h.l8
  have h1 := h.l1
  unfold upCnt
  have e : (List.range ns.length).countP (fun m => decide (0 < m) && decide (upN ns m < k)) + (List.range ns.length).countP (fun m => decide (m = 0)) ≤ (List.range ns.length).countP (fun _ => true) := by
    refine countP_add _ _ _ _ (fun m _ => ?_)
    by_cases h0 : m = 0
    · simp [h0]
    · simp only [decide_eq_false h0]
      split <;> simp
  have e2 : 1 ≤ (List.range ns.length).countP (fun m => decide (m = 0)) := List.countP_pos_iff.2 ⟨0, List.mem_range.2 (by omega), by simp⟩
  have e3 := List.countP_le_length (p := fun _ => true) (l := List.range ns.length)
  rw [List.length_range] at e3
  omega
theorem nine_pow : ∀ k : Nat, 1 ≤ k → (9 : Int) * k ≤ 9 ^ k
  | 0, h => by omega
  | 1, _ => by decide
  | k + 2, _ => by
    have := nine_pow (k + 1) (by omega)
    have e : (9 : Int) ^ (k + 2) = 9 ^ (k + 1) * 9 := Int.pow_succ ..
    rw [e]
    omega
theorem pow9_pos (k : Nat) : (1 : Int) ≤ 9 ^ k := Int.add_one_le_of_lt (Int.pow_pos (by decide))
theorem wsum_nine {ns : List Node} (h : GoodC ns) (k : Nat) : wsum ns k ≤ 9 ^ (kidsN ns k).length := by
  have h1 := lSum_bd ((kidsN ns k).map (nodeAt ns)) (fun x hx => by
    obtain ⟨i, hi, rfl⟩ := List.mem_map.1 hx
    exact h.ws i _ (GoodC.at_ (mem_kids.1 hi).1))
  rw [List.length_map] at h1
  unfold wsum
  by_cases h0 : (kidsN ns k).length = 0
  · rw [h0] at h1 ⊢
    have := h1.2
    simp at this ⊢
    omega
  · have := nine_pow _ (show 1 ≤ (kidsN ns k).length by omega)
    omega
theorem exN_den {ns : List Node} (h : GoodC ns) : ∀ n, n < ns.length → 1 ≤ (exN ns n).2 ∧ (exN ns n).2 ≤ 9 ^ upCnt ns n ∧ 0 ≤ (exN ns n).1 ∧ (exN ns n).1 ≤ (exN ns n).2 := by
  intro n
  induction n using Nat.strongRecOn with
  | ind n ih =>
    intro hn
    by_cases h0 : n = 0
    · subst h0
      have := pow9_pos (upCnt ns 0)
      show 1 ≤ (1 : Int) ∧ (1 : Int) ≤ _ ∧ 0 ≤ (1 : Int) ∧ (1 : Int) ≤ 1
      omega
    · have hu := h.upN hn (by omega)
      have hul : upN ns n < n := hu.1
      rw [exN_up h hn (by omega)]
      split
      · have := pow9_pos (upCnt ns n)
        simp only
        omega
      · rename_i hs
        obtain ⟨i1, i2, i3, i4⟩ := ih _ hul (by omega)
        have hw := (wsum_bd h (upN ns n)).1
        have hw9 := wsum_nine h (upN ns n)
        have hk : n ∈ kidsN ns (upN ns n) := mem_kids.2 ⟨hn, by omega, hu.2.symm⟩
        have hwn := h.ws n _ (GoodC.at_ hn)
        have hle : (nodeAt ns n).w ≤ wsum ns (upN ns n) := le_sum (((kidsN ns (upN ns n)).map (nodeAt ns)).map (·.w)) (fun v hv => by
          obtain ⟨y, hy, rfl⟩ := List.mem_map.1 hv
          exact kidW h _ y hy) _ (List.mem_map.2 ⟨_, List.mem_map.2 ⟨n, hk, rfl⟩, rfl⟩)
        have hst := upCnt_step h hul
        have hp : (9 : Int) ^ (upCnt ns (upN ns n)) * 9 ^ (kidsN ns (upN ns n)).length ≤ 9 ^ upCnt ns n := by
          rw [← Int.pow_add]
          exact pow_le (by decide) hst
        have hm : (exN ns (upN ns n)).2 * wsum ns (upN ns n) ≤ (9 : Int) ^ (upCnt ns (upN ns n)) * 9 ^ (kidsN ns (upN ns n)).length :=
          Int.mul_le_mul i2 hw9 hw (by have := pow9_pos (upCnt ns (upN ns n)); omega)
        have hq : 1 * 1 ≤ (exN ns (upN ns n)).2 * wsum ns (upN ns n) := Int.mul_le_mul i1 (by omega) (by omega) (by omega)
        have hn1 : 0 ≤ (exN ns (upN ns n)).1 * (nodeAt ns n).w := Int.mul_nonneg i3 hwn.1
        have hn2 : (exN ns (upN ns n)).1 * (nodeAt ns n).w ≤ (exN ns (upN ns n)).2 * wsum ns (upN ns n) := Int.mul_le_mul i4 hle hwn.1 (by omega)
        simp only
        omega
theorem nine7 {k : Nat} (hk : k ≤ 7) : (9 : Int) ^ k ≤ 4782969 := by
  have := pow_le (b := 9) (by decide) hk
  have e : (9 : Int) ^ 7 = 4782969 := by decide
  omega
/-- The denominator of the parts below a node. -/
def partD (ns : List Node) (n : Nat) : Int := if wsum ns n = 0 then 1 else (exN ns n).2 * wsum ns n
theorem partD_bd {ns : List Node} (h : GoodC ns) {n : Nat} (hn : n < ns.length) : 1 ≤ partD ns n ∧ partD ns n ≤ 4782969 := by
  unfold partD
  split
  · omega
  · rename_i hs
    obtain ⟨i1, i2, _, _⟩ := exN_den h n hn
    have hw := (wsum_bd h n).1
    have hst := upCnt_step h (show n < n + 1 by omega)
    have hp : (9 : Int) ^ (upCnt ns n) * 9 ^ (kidsN ns n).length ≤ 4782969 := by
      rw [← Int.pow_add]
      exact nine7 (Nat.le_trans hst (upCnt_le h _))
    have hm : (exN ns n).2 * wsum ns n ≤ (9 : Int) ^ (upCnt ns n) * 9 ^ (kidsN ns n).length :=
      Int.mul_le_mul i2 (wsum_nine h n) hw (by have := pow9_pos (upCnt ns n); omega)
    have hq : 1 * 1 ≤ (exN ns n).2 * wsum ns n := Int.mul_le_mul i1 (by omega) (by omega) (by omega)
    omega

/-! Fractions in lowest terms. -/
theorem red_scale {p q k : Int} (hq : 0 < q) (hk : 0 < k) : redS (p * k, q * k) = redS (p, q) := by
  have hg := gcd_pos (num := p) (show 1 ≤ q by omega)
  unfold redS
  simp only
  have e : (Int.gcd (p * k) (q * k) : Int) = (Int.gcd p q : Int) * k := by
    rw [Int.gcd_mul_right]
    have : ((k.natAbs : Nat) : Int) = k := by omega
    rw [Int.natCast_mul, this]
  rw [e, Int.mul_ediv_mul_of_pos_left _ _ hk, Int.mul_ediv_mul_of_pos_left _ _ hk]
theorem red_eq {p q r s : Int} (hq : 0 < q) (hs : 0 < s) (h : p * s = r * q) : redS (p, q) = redS (r, s) := by
  rw [← red_scale hq hs, h, Int.mul_comm q s, red_scale hs hq]
theorem red_cross {p q : Int} (hq : 0 < q) : (redS (p, q)).1 * q = p * (redS (p, q)).2 ∧ 1 ≤ (redS (p, q)).2 ∧ (redS (p, q)).2 ≤ q := by
  have hg := gcd_pos (num := p) (show 1 ≤ q by omega)
  have d1 : (Int.gcd p q : Int) ∣ p := Int.gcd_dvd_left ..
  have d2 : (Int.gcd p q : Int) ∣ q := Int.gcd_dvd_right ..
  unfold redS
  simp only
  generalize (Int.gcd p q : Int) = g at *
  obtain ⟨a, ha⟩ := d1
  obtain ⟨b, hb⟩ := d2
  subst ha
  subst hb
  rw [Int.mul_ediv_cancel_left _ (by omega), Int.mul_ediv_cancel_left _ (by omega)]
  have hb1 : 0 < b := by
    rcases Int.lt_trichotomy 0 b with h | h | h
    · exact h
    · rw [← h] at hq; simp at hq
    · have := Int.mul_neg_of_pos_of_neg hg h; omega
  refine ⟨by rw [Int.mul_comm g a, Int.mul_assoc a g b], by omega, ?_⟩
  have := Int.mul_le_mul_of_nonneg_right (show 1 ≤ g by omega) (show 0 ≤ b by omega)
  omega
theorem red_bd {p q : Int} (hq : 0 < q) (h0 : 0 ≤ p) (h1 : p ≤ q) : 0 ≤ (redS (p, q)).1 ∧ (redS (p, q)).1 ≤ (redS (p, q)).2 := by
  have hg := gcd_pos (num := p) (show 1 ≤ q by omega)
  unfold redS
  simp only
  exact ⟨Int.ediv_nonneg h0 (by omega), Int.ediv_le_ediv hg h1⟩
theorem red_red {p q : Int} (hq : 0 < q) : redS (redS (p, q)) = redS (p, q) := by
  obtain ⟨h1, h2, _⟩ := red_cross (p := p) hq
  have := red_eq (p := (redS (p, q)).1) (q := (redS (p, q)).2) (r := p) (s := q) (by omega) hq h1
  exact this
/-- One part more. -/
theorem red_add {a b D : Int} (hD : 0 < D) : redS ((redS (a, D)).1 * (redS (b, D)).2 + (redS (b, D)).1 * (redS (a, D)).2, (redS (a, D)).2 * (redS (b, D)).2) = redS (a + b, D) := by
  obtain ⟨h1, h2, _⟩ := red_cross (p := a) hD
  obtain ⟨k1, k2, _⟩ := red_cross (p := b) hD
  generalize redS (a, D) = s at *
  generalize redS (b, D) = x at *
  refine red_eq (Int.mul_pos (by omega) (by omega)) hD ?_
  rw [Int.add_mul, Int.add_mul, Int.mul_right_comm s.1, h1, Int.mul_right_comm x.1, k1, Int.mul_assoc a, Int.mul_assoc b, Int.mul_comm x.2 s.2]

/-- Numerators of the parts of the first j nodes below a node, together. -/
def partTo (ns : List Node) (n j : Nat) : Int := if wsum ns n = 0 then 0 else (exN ns n).1 * lSum (((kidsN ns n).take j).map (nodeAt ns))
def partSum (ns : List Node) (n j : Nat) : Int × Int := redS (partTo ns n j, partD ns n)
theorem partSum_zero {ns : List Node} (h : GoodC ns) {n : Nat} (hn : n < ns.length) : partSum ns n 0 = (0, 1) := by
  have hD := partD_bd h hn
  have e : partTo ns n 0 = 0 := by unfold partTo; split <;> simp [lSum]
  unfold partSum
  rw [e]
  unfold redS
  simp only
  have e2 : (Int.gcd 0 (partD ns n) : Int) = partD ns n := by rw [Int.gcd_zero_left]; omega
  rw [e2, Int.zero_ediv, Int.ediv_self (by omega)]
theorem lSum_take {l : List Node} {j : Nat} {x : Node} (hx : l[j]? = some x) : lSum (l.take (j + 1)) = lSum (l.take j) + x.w := by
  rw [List.take_add_one, hx]
  simp [lSum]
theorem part_at {ns : List Node} (h : GoodC ns) {n j x : Nat} (hj : (kidsN ns n)[j]? = some x) :
    exactV ns x = redS (partTo ns n (j + 1) - partTo ns n j, partD ns n) := by
  have hm := mem_kids.1 (List.mem_of_getElem? hj)
  rw [← red_exN h hm.1, exN_up h hm.1 hm.2.1]
  have e : upN ns x = n := by unfold upN; omega
  rw [e]
  have e2 : lSum (((kidsN ns n).take (j + 1)).map (nodeAt ns)) = lSum (((kidsN ns n).take j).map (nodeAt ns)) + (nodeAt ns x).w := by
    rw [List.map_take, List.map_take]
    exact lSum_take (by rw [List.getElem?_map, hj]; rfl)
  unfold partTo partD
  split
  · rfl
  · rw [e2, Int.mul_add]
    congr 1
    rw [Prod.mk.injEq]
    exact ⟨by omega, rfl⟩
theorem partSum_step {ns : List Node} (h : GoodC ns) {n j x : Nat} (hn : n < ns.length) (hj : (kidsN ns n)[j]? = some x) :
    redS ((partSum ns n j).1 * (exactV ns x).2 + (exactV ns x).1 * (partSum ns n j).2, (partSum ns n j).2 * (exactV ns x).2) = partSum ns n (j + 1) := by
  have hD := partD_bd h hn
  rw [part_at h hj]
  unfold partSum
  rw [red_add (by omega)]
  congr 1
  rw [Prod.mk.injEq]
  exact ⟨by omega, rfl⟩
theorem partSum_end {ns : List Node} (h : GoodC ns) {n : Nat} (hn : n < ns.length) : (wsum ns n = 0 → (partSum ns n (kidsN ns n).length).1 = 0) ∧ (wsum ns n ≠ 0 → partSum ns n (kidsN ns n).length = exactV ns n) := by
  have e : ((kidsN ns n).take (kidsN ns n).length) = kidsN ns n := List.take_length
  refine ⟨fun hs => ?_, fun hs => ?_⟩
  · unfold partSum partTo
    rw [if_pos hs]
    unfold redS
    simp
  · have hw := (wsum_bd h n).1
    obtain ⟨i1, _, _, _⟩ := exN_den h n hn
    unfold partSum partTo partD
    rw [if_neg hs, if_neg hs, e]
    show redS ((exN ns n).1 * wsum ns n, (exN ns n).2 * wsum ns n) = _
    rw [red_scale (by omega) (by omega)]
    exact red_exN h hn
/-- A part: from 0 to 1, in lowest terms, small. -/
theorem exactV_part {ns : List Node} (h : GoodC ns) {n : Nat} (hn : n < ns.length) : 1 ≤ (exactV ns n).2 ∧ (exactV ns n).2 ≤ 4782969 ∧ 0 ≤ (exactV ns n).1 ∧ (exactV ns n).1 ≤ (exactV ns n).2 ∧ redS (exactV ns n) = exactV ns n := by
  obtain ⟨i1, i2, i3, i4⟩ := exN_den h n hn
  have h7 := nine7 (upCnt_le h n)
  rw [← red_exN h hn]
  obtain ⟨k1, k2, k3⟩ := red_cross (p := (exN ns n).1) (q := (exN ns n).2) (by omega)
  obtain ⟨l1, l2⟩ := red_bd (p := (exN ns n).1) (q := (exN ns n).2) (by omega) i3 i4
  have l3 := red_red (p := (exN ns n).1) (q := (exN ns n).2) (by omega)
  refine ⟨k2, ?_, l1, l2, l3⟩
  have : (redS (exN ns n)).2 ≤ (exN ns n).2 := k3
  omega
theorem partTo_bd {ns : List Node} (h : GoodC ns) {n : Nat} (hn : n < ns.length) (j : Nat) : 0 ≤ partTo ns n j ∧ partTo ns n j ≤ partD ns n := by
  unfold partTo partD
  split
  · omega
  · obtain ⟨i1, i2, i3, i4⟩ := exN_den h n hn
    have h0 : ∀ x ∈ ((kidsN ns n).take j).map (nodeAt ns), 0 ≤ x.w := fun x hx => by
      obtain ⟨i, hi, rfl⟩ := List.mem_map.1 hx
      exact (h.ws i _ (GoodC.at_ (mem_kids.1 (List.mem_of_mem_take hi)).1)).1
    have h0' : ∀ x ∈ ((kidsN ns n).drop j).map (nodeAt ns), 0 ≤ x.w := fun x hx => by
      obtain ⟨i, hi, rfl⟩ := List.mem_map.1 hx
      exact (h.ws i _ (GoodC.at_ (mem_kids.1 (List.mem_of_mem_drop hi)).1)).1
    have nn : ∀ l : List Node, (∀ x ∈ l, 0 ≤ x.w) → 0 ≤ lSum l := fun l => by
      induction l with
      | nil => intro _; simp [lSum]
      | cons a t ih => intro ha; have := ih (fun x hx => ha x (by simp [hx])); have := ha a (by simp); simp only [lSum, List.map_cons, List.sum_cons] at *; omega
    have e : lSum (((kidsN ns n).take j).map (nodeAt ns)) + lSum (((kidsN ns n).drop j).map (nodeAt ns)) = wsum ns n := by
      unfold wsum
      conv => rhs; rw [← List.take_append_drop j (kidsN ns n)]
      rw [List.map_append]
      unfold lSum
      rw [List.map_append, List.sum_append]
    have a1 := nn _ h0
    have a2 := nn _ h0'
    exact ⟨Int.mul_nonneg i3 a1, Int.mul_le_mul i4 (by omega) a1 (by omega)⟩
theorem partSum_bd {ns : List Node} (h : GoodC ns) {n : Nat} (hn : n < ns.length) (j : Nat) : 1 ≤ (partSum ns n j).2 ∧ (partSum ns n j).2 ≤ 4782969 ∧ 0 ≤ (partSum ns n j).1 ∧ (partSum ns n j).1 ≤ (partSum ns n j).2 := by
  have hD := partD_bd h hn
  obtain ⟨p1, p2⟩ := partTo_bd h hn j
  obtain ⟨k1, k2, k3⟩ := red_cross (p := partTo ns n j) (q := partD ns n) (by omega)
  obtain ⟨l1, l2⟩ := red_bd (p := partTo ns n j) (q := partD ns n) (by omega) p1 p2
  unfold partSum
  omega
/-- What the numbers of a sum's next step come to. -/
theorem step_bd {a b c d : Int} (h1 : 0 ≤ a ∧ a ≤ 4782969) (h2 : 1 ≤ b ∧ b ≤ 4782969) (h3 : 0 ≤ c ∧ c ≤ 4782969) (h4 : 1 ≤ d ∧ d ≤ 4782969) :
    0 ≤ a * d ∧ a * d ≤ 22876792454961 ∧ 0 ≤ c * b ∧ c * b ≤ 22876792454961 ∧ 1 ≤ b * d ∧ b * d ≤ 22876792454961 := by
  have e1 := Int.mul_le_mul h1.2 h4.2 (by omega) (by omega)
  have e2 := Int.mul_le_mul h3.2 h2.2 (by omega) (by omega)
  have e3 := Int.mul_le_mul h2.2 h4.2 (by omega) (by omega)
  have e4 := Int.mul_le_mul h2.1 h4.1 (by omega) (by omega)
  have e5 := Int.mul_nonneg h1.1 (show 0 ≤ d by omega)
  have e6 := Int.mul_nonneg h3.1 (show 0 ≤ b by omega)
  omega
theorem askE_good {ns : List Node} (hv : validB ns = true) : askE ns true [] = 0 := by rw [askE, hv]; simp
theorem exactS_good {ns : List Node} (hv : validB ns = true) {m : Nat} (hm : m < ns.length) {x y : Int} (h : exactV ns m = (x, y)) : exactS ns m = ((x, y), 0) := by
  have hi : inR (m : Int) 0 (ns.length - 1) = true := inR_true.2 (by omega)
  unfold exactS
  rw [hi, if_pos (askE_good hv), ← h]
  rfl
end Go.Proofs.Ytohoonbbjkefaaa
