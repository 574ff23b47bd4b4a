import Derived.Test.YtmbcpmnigggbaaaGreatPL
namespace Go.Proofs.YtmbcpmnigggbaaaGreat
/-! Sales in plain words: what can be reckoned: sets, the most, the winners. -/
def saleB (q : List Bid) (rd : List Int) (l : List Nat) : Bool :=
  decide (l.Pairwise (· < ·)) && (l.all (fun i => match q[i]? with | some b => readyB rd b | none => false) &&
    l.all fun i => l.all fun j => decide (i = j) || match q[i]?, q[j]? with | some a, some b => apartB a b | _, _ => true)
theorem saleB_iff {q : List Bid} {rd : List Int} {l : List Nat} : saleB q rd l = true ↔ SaleL q rd l := by
  unfold saleB
  rw [Bool.and_eq_true, Bool.and_eq_true, decide_eq_true_eq, List.all_eq_true, List.all_eq_true]
  constructor
  · rintro ⟨h1, h2, h3⟩
    refine ⟨h1, fun i hi => ?_, fun i hi j hj hne a b ha hb => ?_⟩
    · have := h2 i hi
      cases hq : q[i]? with
      | none => rw [hq] at this; cases this
      | some b => rw [hq] at this; exact ⟨b, rfl, this⟩
    · have := List.all_eq_true.1 (h3 i hi) j hj
      rw [ha, hb, Bool.or_eq_true, decide_eq_true_eq] at this
      exact this.resolve_left hne
  · rintro ⟨h1, h2, h3⟩
    refine ⟨h1, fun i hi => ?_, fun i hi => ?_⟩
    · obtain ⟨b, hb, hr⟩ := h2 i hi
      rw [hb]; exact hr
    · rw [List.all_eq_true]
      intro j hj
      by_cases e : i = j
      · simp [e]
      · rw [Bool.or_eq_true]
        right
        cases hqi : q[i]? with
        | none => rfl
        | some a =>
          cases hqj : q[j]? with
          | none => rfl
          | some b => exact h3 i hi j hj e a b hqi hqj
theorem saleB_no {q : List Bid} {rd : List Int} {l : List Nat} (h : ¬ SaleL q rd l) : saleB q rd l = false := by
  rw [← Bool.not_eq_true, saleB_iff]; exact h
/-- What a set of bids brings; below 0: it is no sale. -/
def brV (q : List Bid) (rd : List Int) (l : List Nat) : Int := if saleB q rd l = true then bringsL q l else -1
theorem brV_yes {q : List Bid} {rd : List Int} {l : List Nat} (h : SaleL q rd l) : brV q rd l = bringsL q l := if_pos (saleB_iff.2 h)
theorem brV_no {q : List Bid} {rd : List Int} {l : List Nat} (h : ¬ SaleL q rd l) : brV q rd l = -1 := if_neg (by rw [saleB_iff]; exact h)
/-- All sets that are sales. -/
def setsTo (q : List Bid) (rd : List Int) (k : Nat) : List Nat := (List.range k).filter fun m => saleB q rd (bitsL q.length m)
def setsL (q : List Bid) (rd : List Int) : List Nat := setsTo q rd (2 ^ q.length)
theorem setsTo_succ (q : List Bid) (rd : List Int) (k : Nat) : setsTo q rd (k + 1) = setsTo q rd k ++ if saleB q rd (bitsL q.length k) = true then [k] else [] := by
  unfold setsTo
  rw [List.range_succ, List.filter_append]
  congr 1
  cases h : saleB q rd (bitsL q.length k) <;> simp [h]
theorem mem_setsTo {q : List Bid} {rd : List Int} {k m : Nat} : m ∈ setsTo q rd k ↔ m < k ∧ SaleL q rd (bitsL q.length m) := by
  unfold setsTo
  rw [List.mem_filter, List.mem_range, saleB_iff]
theorem setsTo_pre (q : List Bid) (rd : List Int) {k n : Nat} (h : k ≤ n) : setsTo q rd k <+: setsTo q rd n := by
  obtain ⟨d, rfl⟩ := Nat.exists_eq_add_of_le h
  clear h
  induction d with
  | zero => exact List.prefix_rfl
  | succ d ih =>
    rw [show k + (d + 1) = (k + d) + 1 by omega, setsTo_succ]
    exact ih.trans (List.prefix_append _ _)
theorem bits_small : ∀ n, n ≤ 8 → ∀ m, m < 2 ^ n → ∀ i, i < 8 → n ≤ i → m.testBit i = false := fun n _ m hm i _ hni =>
  Nat.testBit_lt_two_pow (Nat.lt_of_lt_of_le hm (Nat.pow_le_pow_right (by omega) hni))
theorem bits_eight {n m : Nat} (hn : n ≤ 8) (hm : m < 2 ^ n) : bitsL 8 m = bitsL n m := by
  have : ∀ d, n + d ≤ 8 → bitsL (n + d) m = bitsL n m := fun d => by
    induction d with
    | zero => intro _; rfl
    | succ d ih =>
      intro hd
      rw [show n + (d + 1) = (n + d) + 1 by omega, bits_succ, ih (by omega), bits_small n hn m hm (n + d) (by omega) (by omega)]
      simp
  have := this (8 - n) (by omega)
  rw [show n + (8 - n) = 8 by omega] at this
  exact this
theorem pow_eight {n : Nat} (hn : n ≤ 8) : 2 ^ n ≤ 256 := Nat.pow_le_pow_right (by omega) hn
/-- The most that some sets bring, of those that are meant. -/
def mostTo (q : List Bid) (p : Nat → Bool) (S : List Nat) : Int := S.foldl (fun n m => if p m = true then max n (bringsL q (bitsL q.length m)) else n) (-1)
theorem mostTo_snoc (q : List Bid) (p : Nat → Bool) (S : List Nat) (m : Nat) : mostTo q p (S ++ [m]) = if p m = true then max (mostTo q p S) (bringsL q (bitsL q.length m)) else mostTo q p S := by
  unfold mostTo; rw [List.foldl_append]; rfl
theorem mostTo_ge (q : List Bid) (p : Nat → Bool) (hq : ∀ b ∈ q, 0 ≤ b.pay) (S : List Nat) : (∀ m ∈ S, p m = true → bringsL q (bitsL q.length m) ≤ mostTo q p S) ∧ ((mostTo q p S = -1 ∧ ∀ m ∈ S, ¬ p m = true) ∨ ∃ m ∈ S, p m = true ∧ bringsL q (bitsL q.length m) = mostTo q p S) := by
  refine snoc_indN (P := fun S => (∀ m ∈ S, p m = true → bringsL q (bitsL q.length m) ≤ mostTo q p S) ∧ ((mostTo q p S = -1 ∧ ∀ m ∈ S, ¬ p m = true) ∨ ∃ m ∈ S, p m = true ∧ bringsL q (bitsL q.length m) = mostTo q p S)) ⟨fun m hm => by simp at hm, .inl ⟨rfl, fun m hm => by simp at hm⟩⟩ (fun S x ⟨h1, h2⟩ => ?_) S
  rw [mostTo_snoc]
  by_cases hx : p x = true
  · rw [if_pos hx]
    have h0 := brings_nonneg hq (bitsL q.length x)
    refine ⟨fun m hm hp => ?_, .inr ?_⟩
    · rcases List.mem_append.1 hm with hm | hm
      · have := h1 m hm hp; omega
      · rw [List.mem_singleton.1 hm]; omega
    · by_cases hle : bringsL q (bitsL q.length x) ≤ mostTo q p S
      · rcases h2 with ⟨e, _⟩ | ⟨m, k1, k2, k3⟩
        · omega
        · exact ⟨m, by simp [k1], k2, by omega⟩
      · exact ⟨x, by simp, hx, by omega⟩
  · rw [if_neg hx]
    refine ⟨fun m hm hp => ?_, ?_⟩
    · rcases List.mem_append.1 hm with hm | hm
      · exact h1 m hm hp
      · rw [List.mem_singleton.1 hm] at hp; exact absurd hp hx
    · rcases h2 with ⟨e, h3⟩ | ⟨m, k1, k2, k3⟩
      · refine .inl ⟨e, fun m hm => ?_⟩
        rcases List.mem_append.1 hm with hm | hm
        · exact h3 m hm
        · rw [List.mem_singleton.1 hm]; exact hx
      · exact .inr ⟨m, by simp [k1], k2, k3⟩
theorem most_of_sets {q : List Bid} {rd : List Int} {P : List Nat → Prop} {p : Nat → Bool} (hn : q.length ≤ 8) (hq : ∀ b ∈ q, 0 ≤ b.pay) (hP : ∀ m, m < 2 ^ q.length → (p m = true ↔ P (bitsL q.length m))) : MostIs q rd P (mostTo q p (setsL q rd)) := by
  have hset : ∀ l, SaleL q rd l → ∃ m, m ∈ setsL q rd ∧ m < 2 ^ q.length ∧ bitsL q.length m = l := fun l hl => by
    obtain ⟨m, h1, rfl⟩ := bits_all q.length hn l hl.up fun i hi => hl.lt hi
    exact ⟨m, mem_setsTo.2 ⟨h1, hl⟩, h1, rfl⟩
  obtain ⟨h1, h2⟩ := mostTo_ge q p hq (setsL q rd)
  refine ⟨fun l hl hp => ?_, ?_⟩
  · obtain ⟨m, k1, k2, rfl⟩ := hset l hl
    exact h1 m k1 ((hP m k2).2 hp)
  · rcases h2 with ⟨e, h3⟩ | ⟨m, k1, k2, k3⟩
    · refine .inl ⟨e, fun l hl hp => ?_⟩
      obtain ⟨m, k1, k2, rfl⟩ := hset l hl
      exact h3 m k1 ((hP m k2).2 hp)
    · have k4 := mem_setsTo.1 k1
      exact .inr ⟨_, k4.2, (hP m k4.1).1 k2, k3⟩
/-- The winners' loop: the first best set, and what it brings. -/
instance aheadDec (p b : List Nat) : Decidable (aheadP p b) := inferInstanceAs (Decidable (p.length < b.length ∨ (p.length = b.length ∧ earlierN p b = true)))
def winStep (q : List Bid) (st : Nat × Int) (m : Nat) : Nat × Int :=
  if st.2 < bringsL q (bitsL q.length m) ∨ (bringsL q (bitsL q.length m) = st.2 ∧ aheadP (bitsL q.length m) (bitsL q.length st.1)) then (m, bringsL q (bitsL q.length m)) else st
def winTo (q : List Bid) (S : List Nat) : Nat × Int := S.foldl (winStep q) (0, -1)
theorem winTo_snoc (q : List Bid) (S : List Nat) (m : Nat) : winTo q (S ++ [m]) = winStep q (winTo q S) m := by
  unfold winTo; rw [List.foldl_append]; rfl
theorem winTo_ge (q : List Bid) (hq : ∀ b ∈ q, 0 ≤ b.pay) (S : List Nat) : (S = [] ∧ winTo q S = (0, -1)) ∨ ((winTo q S).1 ∈ S ∧ (winTo q S).2 = bringsL q (bitsL q.length (winTo q S).1) ∧ ∀ m ∈ S, bringsL q (bitsL q.length m) ≤ (winTo q S).2 ∧ (bringsL q (bitsL q.length m) = (winTo q S).2 → ¬ aheadP (bitsL q.length m) (bitsL q.length (winTo q S).1))) := by
  refine snoc_indN (P := fun S => (S = [] ∧ winTo q S = (0, -1)) ∨ ((winTo q S).1 ∈ S ∧ (winTo q S).2 = bringsL q (bitsL q.length (winTo q S).1) ∧ ∀ m ∈ S, bringsL q (bitsL q.length m) ≤ (winTo q S).2 ∧ (bringsL q (bitsL q.length m) = (winTo q S).2 → ¬ aheadP (bitsL q.length m) (bitsL q.length (winTo q S).1)))) (.inl ⟨rfl, rfl⟩) (fun S x h => .inr ?_) S
  rw [winTo_snoc]
  have h0 := brings_nonneg hq (bitsL q.length x)
  generalize winTo q S = st at h
  obtain ⟨b, n⟩ := st
  unfold winStep
  rcases h with ⟨rfl, e⟩ | ⟨h1, h2, h3⟩
  · cases e
    rw [if_pos (.inl (by show (-1 : Int) < _; omega))]
    exact ⟨by simp, rfl, fun m hm => by
      rw [List.nil_append, List.mem_singleton] at hm
      subst hm
      exact ⟨Int.le_refl _, fun _ => ahead_irr _⟩⟩
  · simp only at h1 h2 h3 ⊢
    by_cases hc : n < bringsL q (bitsL q.length x) ∨ (bringsL q (bitsL q.length x) = n ∧ aheadP (bitsL q.length x) (bitsL q.length b))
    · rw [if_pos hc]
      refine ⟨by simp, rfl, fun m hm => ?_⟩
      simp only
      rcases List.mem_append.1 hm with hm | hm
      · obtain ⟨k1, k2⟩ := h3 m hm
        rcases hc with hc | ⟨hc, ha⟩
        · exact ⟨by omega, fun e => by omega⟩
        · exact ⟨by omega, fun e hm2 => k2 (by omega) (ahead_trans hm2 ha)⟩
      · rw [List.mem_singleton.1 hm]
        exact ⟨Int.le_refl _, fun _ => ahead_irr _⟩
    · rw [if_neg hc]
      refine ⟨by simp [h1], h2, fun m hm => ?_⟩
      simp only
      rcases List.mem_append.1 hm with hm | hm
      · exact h3 m hm
      · rw [List.mem_singleton.1 hm]
        exact ⟨by
          apply Int.not_lt.1
          exact fun hh => hc (.inl hh), fun e ha => hc (.inr ⟨e, ha⟩)⟩
def winS (q : List Bid) (rd : List Int) : Nat := (winTo q (setsL q rd)).1
/-- The winners. -/
def winL (q : List Bid) (rd : List Int) : List Nat := bitsL q.length (winS q rd)
theorem win_of_sets {q : List Bid} {rd : List Int} (hn : q.length ≤ 8) (hq : ∀ b ∈ q, 0 ≤ b.pay) : winS q rd < 2 ^ q.length ∧ WinIs q rd (winL q rd) := by
  have h0 : 0 ∈ setsL q rd := mem_setsTo.2 ⟨Nat.pow_pos (by omega), by rw [bits_zero]; exact SaleL.nil q rd⟩
  rcases winTo_ge q hq (setsL q rd) with ⟨e, _⟩ | ⟨h1, h2, h3⟩
  · rw [e] at h0; simp at h0
  · obtain ⟨k1, k2⟩ := mem_setsTo.1 h1
    refine ⟨k1, k2, fun l hl => ?_, fun l hl he => ?_⟩
    · obtain ⟨m, j1, rfl⟩ := bits_all q.length hn l hl.up fun i hi => hl.lt hi
      have := (h3 m (mem_setsTo.2 ⟨j1, hl⟩)).1
      unfold winL winS
      rw [← h2]; exact this
    · obtain ⟨m, j1, rfl⟩ := bits_all q.length hn l hl.up fun i hi => hl.lt hi
      exact (h3 m (mem_setsTo.2 ⟨j1, hl⟩)).2 (by unfold winL winS at he; rw [h2]; exact he)
def allM (_ : Nat) : Bool := true
/-- What the best sales bring. -/
def mostV (q : List Bid) (rd : List Int) : Int := mostTo q allM (setsL q rd)
theorem mostV_is {q : List Bid} {rd : List Int} (hn : q.length ≤ 8) (hq : ∀ b ∈ q, 0 ≤ b.pay) : MostIs q rd (fun _ => True) (mostV q rd) := most_of_sets hn hq fun _ _ => ⟨fun _ => trivial, fun _ => rfl⟩
theorem mostV_win {q : List Bid} {rd : List Int} (hn : q.length ≤ 8) (hq : ∀ b ∈ q, 0 ≤ b.pay) : mostV q rd = bringsL q (winL q rd) := (mostV_is hn hq).unique (win_of_sets hn hq).2.most
/-- The most without a buyer. -/
def noneM (q : List Bid) (v : Int) (m : Nat) : Bool := !(bitsL 8 m).any (ownP q v)
def noneV (q : List Bid) (rd : List Int) (v : Int) : Int := mostTo q (noneM q v) (setsL q rd)
theorem noneV_is {q : List Bid} {rd : List Int} {v : Int} (hn : q.length ≤ 8) (hq : ∀ b ∈ q, 0 ≤ b.pay) : MostIs q rd (NoneOf q v) (noneV q rd v) := most_of_sets hn hq fun m hm => by
  unfold noneM NoneOf
  rw [bits_eight hn hm, Bool.not_eq_true', ← Bool.not_eq_true, List.any_eq_true]
  exact ⟨fun h i hi ho => h ⟨i, hi, ho⟩, fun h ⟨i, hi, ho⟩ => h i hi ho⟩
/-- What a buyer pays. -/
def payV (q : List Bid) (rd : List Int) (v : Int) : Int := if (winL q rd).any (ownP q v) = true then noneV q rd v - othersL q v (winL q rd) else 0
theorem payV_eq {q : List Bid} {rd : List Int} (hn : q.length ≤ 8) (hq : ∀ b ∈ q, 0 ≤ b.pay) (v : Int) : payV q rd v = noneV q rd v - othersL q v (winL q rd) := by
  unfold payV
  split
  · rfl
  · rename_i h
    rw [pays_none (win_of_sets hn hq).2 (noneV_is hn hq) fun i hi ho => h (List.any_eq_true.2 ⟨i, hi, ho⟩)]
/-- What the first n buyers pay together. -/
def paidTo (q : List Bid) (rd : List Int) : Nat → Int
  | 0 => 0
  | n + 1 => paidTo q rd n + payV q rd n
theorem payV_bd {q : List Bid} {rd : List Int} (hn : q.length ≤ 8) (hq : ∀ b ∈ q, 0 ≤ b.pay) (v : Int) : 0 ≤ payV q rd v ∧ payV q rd v ≤ ownL q v (winL q rd) := by
  have := pays_bd (win_of_sets (rd := rd) hn hq).2 (noneV_is (rd := rd) (v := v) hn hq)
  rw [payV_eq hn hq]
  omega
theorem paidTo_bd {q : List Bid} {rd : List Int} (hn : q.length ≤ 8) (hq : ∀ b ∈ q, 0 ≤ b.pay) : ∀ n, 0 ≤ paidTo q rd n ∧ paidTo q rd n ≤ ownTo q (winL q rd) n
  | 0 => ⟨Int.le_refl _, Int.le_refl _⟩
  | n + 1 => by
    have h1 := paidTo_bd hn hq (rd := rd) n
    have h2 := payV_bd hn hq (rd := rd) (n : Int)
    rw [ownTo_succ]
    unfold paidTo
    omega

/-! Without a buyer: the bids of the others alone. -/
theorem img_perm {f : Nat → Nat} {n : Nat} {l : List Nat} (hn : l.Nodup) (hlt : ∀ i ∈ l, f i < n) (inj : ∀ i ∈ l, ∀ j ∈ l, f i = f j → i = j) : (l.map f).Perm (imageL f n l) := by
  have h1 : (l.map f).Nodup := by
    unfold List.Nodup at hn ⊢
    rw [List.pairwise_map]
    exact hn.imp_of_mem fun {a b} ha hb hab e => hab (inj a ha b hb e)
  have h2 : (imageL f n l).Nodup := (List.nodup_range.filter _)
  refine perm_of_subN _ _ h1 (fun x hx => ?_) ?_
  · obtain ⟨i, hi, rfl⟩ := List.mem_map.1 hx
    exact mem_image.2 ⟨hlt i hi, i, hi, rfl⟩
  · exact len_of_subN _ _ h2 fun x hx => by
      obtain ⟨_, i, hi, rfl⟩ := mem_image.1 hx
      exact List.mem_map.2 ⟨i, hi, rfl⟩
theorem img_sale {q r : List Bid} {f : Nat → Nat} {rd : List Int} {l : List Nat} (hs : SaleL r rd l) (h : ∀ i ∈ l, q[f i]? = r[i]?) (inj : ∀ i ∈ l, ∀ j ∈ l, f i = f j → i = j) : SaleL q rd (imageL f q.length l) ∧ bringsL q (imageL f q.length l) = bringsL r l := by
  have hlt : ∀ i ∈ l, f i < q.length := fun i hi => by
    obtain ⟨b, hb, _⟩ := hs.rdy i hi
    rw [← h i hi] at hb
    exact (List.getElem?_eq_some_iff.1 hb).1
  refine ⟨⟨List.pairwise_lt_range.filter _, fun j hj => ?_, fun j hj k hk hne a b ha hb => ?_⟩, ?_⟩
  · obtain ⟨_, i, hi, rfl⟩ := mem_image.1 hj
    obtain ⟨b, hb, hr⟩ := hs.rdy i hi
    exact ⟨b, by rw [h i hi]; exact hb, hr⟩
  · obtain ⟨_, i, hi, rfl⟩ := mem_image.1 hj
    obtain ⟨_, i', hi', rfl⟩ := mem_image.1 hk
    exact hs.ap i hi i' hi' (fun e => hne (by rw [e])) a b (by rw [← h i hi]; exact ha) (by rw [← h i' hi']; exact hb)
  · have hp := img_perm hs.nodup hlt inj
    unfold bringsL
    rw [← sum_permI (hp.map (payAt q)), List.map_map]
    congr 1
    apply List.map_congr_left
    intro i hi
    show payAt q (f i) = payAt r i
    unfold payAt
    rw [h i hi]
/-- Where a kept bid stands among the kept ones. -/
def keptAt (p : Bid → Bool) (q : List Bid) (i : Nat) : Nat := ((q.take i).filter p).length
theorem kept_at {p : Bid → Bool} {q : List Bid} {i : Nat} {b : Bid} (h : q[i]? = some b) (hp : p b = true) : (q.filter p)[keptAt p q i]? = some b := by
  obtain ⟨hi, e⟩ := List.getElem?_eq_some_iff.1 h
  have hs : q = q.take i ++ b :: q.drop (i + 1) := by
    rw [← e, ← List.drop_eq_getElem_cons hi, List.take_append_drop]
  unfold keptAt
  rw [show (q.filter p) = (q.take i).filter p ++ (b :: q.drop (i + 1)).filter p by rw [← List.filter_append, ← hs], List.getElem?_append_right (Nat.le_refl _), Nat.sub_self, List.filter_cons_of_pos hp]
  rfl
theorem kept_lt {p : Bid → Bool} {q : List Bid} {i j : Nat} {b : Bid} (h : q[i]? = some b) (hp : p b = true) (hij : i < j) : keptAt p q i < keptAt p q j := by
  unfold keptAt
  have : q.take j = q.take i ++ b :: (q.take j).drop (i + 1) := by
    have hjl : i < (q.take j).length := by
      have := (List.getElem?_eq_some_iff.1 h).1
      rw [List.length_take]; omega
    have e : (q.take j)[i] = b := by
      have := (List.getElem?_eq_some_iff.1 h).2
      rw [List.getElem_take]; exact this
    have e2 := List.take_append_drop i (q.take j)
    rw [List.drop_eq_getElem_cons hjl, e, List.take_take, Nat.min_eq_left (by omega)] at e2
    exact e2.symm
  rw [this, List.filter_append, List.length_append, List.filter_cons_of_pos hp, List.length_cons]
  omega
theorem kept_inj {p : Bid → Bool} {q : List Bid} {i j : Nat} {a b : Bid} (ha : q[i]? = some a) (hb : q[j]? = some b) (pa : p a = true) (pb : p b = true) (e : keptAt p q i = keptAt p q j) : i = j := by
  rcases Nat.lt_trichotomy i j with h | h | h
  · have := kept_lt ha pa h; omega
  · exact h
  · have := kept_lt hb pb h; omega
theorem kept_of {p : Bid → Bool} : ∀ {q : List Bid} {j : Nat} {b : Bid}, (q.filter p)[j]? = some b → ∃ i, q[i]? = some b ∧ p b = true ∧ keptAt p q i = j
  | [], j, b, h => by simp at h
  | x :: q, j, b, h => by
    by_cases hx : p x = true
    · rw [List.filter_cons_of_pos hx] at h
      match j, h with
      | 0, h =>
        simp at h; subst h
        exact ⟨0, rfl, hx, rfl⟩
      | j + 1, h =>
        obtain ⟨i, h1, h2, h3⟩ := kept_of (show (q.filter p)[j]? = some b by simpa using h)
        refine ⟨i + 1, by simpa using h1, h2, ?_⟩
        unfold keptAt at h3 ⊢
        rw [List.take_succ_cons, List.filter_cons_of_pos hx, List.length_cons, h3]
    · rw [List.filter_cons_of_neg hx] at h
      obtain ⟨i, h1, h2, h3⟩ := kept_of h
      refine ⟨i + 1, by simpa using h1, h2, ?_⟩
      unfold keptAt at h3 ⊢
      rw [List.take_succ_cons, List.filter_cons_of_neg hx, h3]
def keptQ (v : Int) (q : List Bid) : List Bid := q.filter fun b => decide (b.who ≠ v)
theorem without_is {q : List Bid} {rd : List Int} {v m : Int} (h : MostIs (keptQ v q) rd (fun _ => True) m) : MostIs q rd (NoneOf q v) m := by
  have hp : ∀ {i : Nat} {b : Bid}, q[i]? = some b → ¬ ownP q v i = true → decide (b.who ≠ v) = true := fun {i b} hb hn => by
    rw [own_some hb, decide_eq_true_eq] at hn
    exact decide_eq_true hn
  refine ⟨fun l hl hno => ?_, .inr ?_⟩
  · have := img_sale (q := keptQ v q) (f := keptAt (fun b => decide (b.who ≠ v)) q) hl (fun i hi => by
      obtain ⟨b, hb, _⟩ := hl.rdy i hi
      rw [hb]; exact kept_at hb (hp hb (hno i hi))) (fun i hi j hj e => by
      obtain ⟨a, ha, _⟩ := hl.rdy i hi
      obtain ⟨b, hb, _⟩ := hl.rdy j hj
      exact kept_inj ha hb (hp ha (hno i hi)) (hp hb (hno j hj)) e)
    rw [← this.2]
    exact h.ge _ this.1 trivial
  · rcases h.at_ with ⟨_, h2⟩ | ⟨l, h1, _, h3⟩
    · exact absurd trivial (h2 [] (SaleL.nil _ _))
    · have hex : ∀ j ∈ l, ∃ i b, q[i]? = some b ∧ (keptQ v q)[j]? = some b ∧ b.who ≠ v ∧ keptAt (fun b => decide (b.who ≠ v)) q i = j := fun j hj => by
        obtain ⟨b, hb, _⟩ := h1.rdy j hj
        obtain ⟨i, k1, k2, k3⟩ := kept_of hb
        exact ⟨i, b, k1, hb, of_decide_eq_true k2, k3⟩
      have hfx : ∃ f : Nat → Nat, ∀ j ∈ l, ∃ b, q[f j]? = some b ∧ (keptQ v q)[j]? = some b ∧ b.who ≠ v ∧ keptAt (fun b => decide (b.who ≠ v)) q (f j) = j := by
        refine ⟨fun j => if hj : j ∈ l then Classical.choose (hex j hj) else 0, fun j hj => ?_⟩
        simp only [dif_pos hj]
        exact Classical.choose_spec (hex j hj)
      obtain ⟨f, hf⟩ := hfx
      have := img_sale (q := q) (f := f) h1 (fun j hj => by
        obtain ⟨b, k1, k2, _⟩ := hf j hj
        rw [k1, k2]) (fun i hi j hj e => by
        obtain ⟨a, _, _, _, k4⟩ := hf i hi
        obtain ⟨b, _, _, _, j4⟩ := hf j hj
        rw [← k4, ← j4, e])
      refine ⟨_, this.1, fun j hj ho => ?_, this.2.trans h3⟩
      obtain ⟨_, i, hi, rfl⟩ := mem_image.1 hj
      obtain ⟨b, k1, _, k3, _⟩ := hf i hi
      rw [own_some k1, decide_eq_true_eq] at ho
      exact k3 ho

/-! When. -/
/-- The first of the days 0 to 20 on which g is what it is on the day 20. -/
structure WhenIs (g : Nat → Int) (d : Nat) : Prop where
  le : d ≤ 20
  at_ : g 20 ≤ g d
  first : ∀ e, e < d → g e < g 20
theorem WhenIs.unique {g : Nat → Int} {d e : Nat} (h : WhenIs g d) (k : WhenIs g e) : d = e := by
  rcases Nat.lt_trichotomy d e with x | x | x
  · have := k.first d x; have := h.at_; omega
  · exact x
  · have := h.first e x; have := k.at_; omega
end Go.Proofs.YtmbcpmnigggbaaaGreat
