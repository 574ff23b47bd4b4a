import Derived.Test.YtohoonbbjkefaaaM3
namespace Go.Proofs.Ytohoonbbjkefaaa

/-- The weights of all nodes below a node, together. -/
def wsum (ns : List Node) (k : Nat) : Int := lSum ((kidsN ns k).map (nodeAt ns))
def upN (ns : List Node) (n : Nat) : Nat := (nodeAt ns n).u.toNat
/-- The part of a node as it is gathered on the way up; none: a sum on the way is 0. -/
def exGo (ns : List Node) : Nat → Nat → Int → Int → Option (Int × Int)
  | 0, _, num, den => some (num, den)
  | f + 1, n, num, den => if n = 0 then some (num, den) else if wsum ns (upN ns n) = 0 then none else exGo ns f (upN ns n) (num * (nodeAt ns n).w) (den * wsum ns (upN ns n))
/-- A fraction in lowest terms. -/
def redS (p : Int × Int) : Int × Int := (p.1 / (Int.gcd p.1 p.2 : Int), p.2 / (Int.gcd p.1 p.2 : Int))
def exactV (ns : List Node) (n : Nat) : Int × Int := match exGo ns n n 1 1 with | some p => redS p | none => (0, 1)

theorem exGo_more {ns : List Node} (h : GoodC ns) : ∀ (n f : Nat) (a b : Int), n < ns.length → n ≤ f → exGo ns f n a b = exGo ns n n a b := by
  intro n
  induction n using Nat.strongRecOn with
  | _ n ih =>
    intro f a b hn hf
    cases n with
    | zero => cases f <;> simp [exGo]
    | succ n =>
      obtain ⟨f, rfl⟩ : ∃ g, f = g + 1 := ⟨f - 1, by omega⟩
      have hu := (h.upN hn (by omega)).1
      simp only [exGo, if_neg (Nat.succ_ne_zero n)]
      split
      · rfl
      · have hu' : upN ns (n + 1) < n + 1 := hu
        rw [ih _ hu' f _ _ (by omega) (by omega), ih _ hu' n _ _ (by omega) (by omega)]
theorem exGo_up {ns : List Node} (h : GoodC ns) {n : Nat} (hn : n < ns.length) (h0 : 0 < n) (a b : Int) (hs : wsum ns (upN ns n) ≠ 0) :
    exGo ns n n a b = exGo ns (upN ns n) (upN ns n) (a * (nodeAt ns n).w) (b * wsum ns (upN ns n)) := by
  have hu : upN ns n < n := (h.upN hn h0).1
  obtain ⟨m, rfl⟩ : ∃ m, n = m + 1 := ⟨n - 1, by omega⟩
  conv => lhs; unfold exGo
  rw [if_neg (Nat.succ_ne_zero m), if_neg hs, exGo_more h _ m _ _ (by omega) (by omega)]
theorem exGo_none {ns : List Node} {n : Nat} (h0 : 0 < n) (a b : Int) (hs : wsum ns (upN ns n) = 0) : exGo ns n n a b = none := by
  obtain ⟨m, rfl⟩ : ∃ m, n = m + 1 := ⟨n - 1, by omega⟩
  conv => lhs; unfold exGo
  rw [if_neg (Nat.succ_ne_zero m), if_pos hs]
theorem exGo_zero (ns : List Node) (a b : Int) : exGo ns 0 0 a b = some (a, b) := rfl

theorem lSum_bd : ∀ (l : List Node), (∀ x ∈ l, 0 ≤ x.w ∧ x.w ≤ 9) → 0 ≤ lSum l ∧ lSum l ≤ 9 * l.length
  | [], _ => by simp [lSum]
  | x :: xs, h => by
    have := lSum_bd xs (fun y hy => h y (List.mem_cons_of_mem _ hy))
    have hx := h x (List.mem_cons_self ..)
    simp only [lSum, List.map_cons, List.sum_cons, List.length_cons] at *
    omega
theorem kidsN_len {ns : List Node} (h : GoodC ns) (k : Nat) : (kidsN ns k).length ≤ 7 := by
  have h8 := h.l8
  have h1 := h.l1
  have : (kidsN ns k).length ≤ ((List.range ns.length).filter (fun i => decide (0 < i))).length := by
    unfold kidsN
    apply List.Sublist.length_le
    have : (List.range ns.length).filter (isKid ns k) = ((List.range ns.length).filter (fun i => decide (0 < i))).filter (isKid ns k) := by
      rw [List.filter_filter]
      apply List.filter_congr
      intro i _
      simp only [isKid]
      cases decide (0 < i) <;> simp
    rw [this]
    exact List.filter_sublist
  have h2 : ((List.range ns.length).filter (fun i => decide (0 < i))).length + 1 ≤ ns.length := by
    obtain ⟨m, hm⟩ : ∃ m, ns.length = m + 1 := ⟨ns.length - 1, by omega⟩
    rw [hm, List.range_succ_eq_map, List.filter_cons]
    simp only [Nat.lt_irrefl, decide_false]
    have := List.length_filter_le (fun i => decide (0 < i)) (List.map Nat.succ (List.range m))
    simp at this ⊢
    exact this
  omega
theorem wsum_bd {ns : List Node} (h : GoodC ns) (k : Nat) : 0 ≤ wsum ns k ∧ wsum ns k ≤ 63 := by
  have h1 := lSum_bd ((kidsN ns k).map (nodeAt ns)) (fun x hx => by
    obtain ⟨i, hi, rfl⟩ := List.mem_map.1 hx
    exact h.ws i _ (GoodC.at_ (mem_kids.1 hi).1))
  have h2 := kidsN_len h k
  simp only [List.length_map] at h1
  unfold wsum
  omega
theorem sumK_wsum {ns : List Node} (h : GoodC ns) (k : Nat) : sumK (kidsTo ns.length ns k ns.length) = wsum ns k := by
  rw [sumK_eq, kids_nodes h]; rfl

/-- What the way up keeps of its numbers: k is where it stands. -/
def ExB (k : Nat) (num den : Int) : Prop := 0 ≤ num ∧ num ≤ 9 ^ (7 - k) ∧ 1 ≤ den ∧ den ≤ 63 ^ (7 - k)
theorem ExB.start {k : Nat} : ExB k 1 1 := by
  have h9 : ∀ j : Nat, (1 : Int) ≤ 9 ^ j := fun j => Int.add_one_le_of_lt (Int.pow_pos (by decide))
  have h63 : ∀ j : Nat, (1 : Int) ≤ 63 ^ j := fun j => Int.add_one_le_of_lt (Int.pow_pos (by decide))
  exact ⟨by decide, h9 _, by decide, h63 _⟩
theorem pow_le {b : Int} (hb : 1 ≤ b) : ∀ {i j : Nat}, i ≤ j → b ^ i ≤ b ^ j := by
  intro i j h
  obtain ⟨d, rfl⟩ := Nat.exists_eq_add_of_le h
  induction d with
  | zero => exact Int.le_refl _
  | succ d ih =>
    have h1 := ih (by omega)
    have h0 : 0 ≤ b ^ (i + d) := Int.pow_nonneg (by omega)
    have h2 : b ^ (i + d) * 1 ≤ b ^ (i + d) * b := Int.mul_le_mul_of_nonneg_left hb h0
    rw [← Nat.add_assoc, Int.pow_succ]
    omega
theorem ExB.step {k j : Nat} {num den w s : Int} (h : ExB k num den) (hj : j < k) (hk : k ≤ 7) (hw : 0 ≤ w ∧ w ≤ 9) (hs : 1 ≤ s ∧ s ≤ 63) : ExB j (num * w) (den * s) := by
  obtain ⟨h1, h2, h3, h4⟩ := h
  have a1 : 0 ≤ num * w := Int.mul_nonneg h1 hw.1
  have a2 : num * w ≤ 9 ^ (7 - k) * 9 := Int.mul_le_mul h2 hw.2 hw.1 (by have := h2; omega)
  have a3 : 9 ^ (7 - k) * 9 ≤ (9 : Int) ^ (7 - j) := by rw [← Int.pow_succ]; exact pow_le (by decide) (by omega)
  have b1 : 1 * 1 ≤ den * s := Int.mul_le_mul h3 hs.1 (by decide) (by omega)
  have b2 : den * s ≤ 63 ^ (7 - k) * 63 := Int.mul_le_mul h4 hs.2 (by omega) (by omega)
  have b3 : 63 ^ (7 - k) * 63 ≤ (63 : Int) ^ (7 - j) := by rw [← Int.pow_succ]; exact pow_le (by decide) (by omega)
  exact ⟨a1, by omega, by omega, by omega⟩
theorem ExB.top {k : Nat} {num den : Int} (h : ExB k num den) : 0 ≤ num ∧ num ≤ 4782969 ∧ 1 ≤ den ∧ den ≤ 3938980639167 := by
  obtain ⟨h1, h2, h3, h4⟩ := h
  have a : (9 : Int) ^ (7 - k) ≤ 9 ^ 7 := pow_le (by decide) (by omega)
  have b : (63 : Int) ^ (7 - k) ≤ 63 ^ 7 := pow_le (by decide) (by omega)
  have e1 : (9 : Int) ^ 7 = 4782969 := by decide
  have e2 : (63 : Int) ^ 7 = 3938980639167 := by decide
  omega

theorem gcd_step {a b : Int} (hb : 0 < b) : Int.gcd b (a % b) = Int.gcd a b ∧ 0 ≤ a % b ∧ a % b < b := by
  refine ⟨?_, Int.emod_nonneg _ (by omega), Int.emod_lt_of_pos _ hb⟩
  rw [Int.gcd_comm, Int.emod_def, Int.gcd_sub_mul_left_left]
theorem gcd_end {a : Int} (ha : 0 ≤ a) : (Int.gcd a 0 : Int) = a := by simp; omega
theorem gcd_pos {num den : Int} (hd : 1 ≤ den) : 0 < (Int.gcd num den : Int) := by
  have : 0 < Int.gcd num den := Int.gcd_pos_of_ne_zero_right _ (by omega)
  omega
end Go.Proofs.Ytohoonbbjkefaaa
