import Derived.Test.YtmbcpmnigggbaaaC3
import Derived.IntWalk
namespace Go.Proofs.Ytmbcpmnigggbaaa
/-! Sales in plain words: bids, sales, what they bring, the best ones, the winners. -/
structure Bid where
  who : Int
  bar : List Int
  pay : Int
/-- Two bids can be in one sale. -/
def apartB (a b : Bid) : Bool := decide (a.who ≠ b.who) && a.bar.all fun n => decide (n ∉ b.bar)
theorem apart_iff {a b : Bid} : apartB a b = true ↔ a.who ≠ b.who ∧ ∀ n ∈ a.bar, n ∉ b.bar := by
  unfold apartB
  rw [Bool.and_eq_true, decide_eq_true_eq, List.all_eq_true]
  exact and_congr Iff.rfl ⟨fun h n hn => of_decide_eq_true (h n hn), fun h n hn => decide_eq_true (h n hn)⟩
theorem apart_symm {a b : Bid} (h : apartB a b = true) : apartB b a = true := by
  rw [apart_iff] at h ⊢
  exact ⟨fun e => h.1 e.symm, fun n hn hm => h.2 n hm hn⟩
def readyB (rd : List Int) (b : Bid) : Bool := b.bar.all fun n => decide (n ∈ rd)
theorem ready_iff {rd : List Int} {b : Bid} : readyB rd b = true ↔ ∀ n ∈ b.bar, n ∈ rd := by
  unfold readyB
  rw [List.all_eq_true]
  exact ⟨fun h n hn => of_decide_eq_true (h n hn), fun h n hn => decide_eq_true (h n hn)⟩
/-- A sale: bids, strictly ascending, all of whose barrels are ready, each two of which can be in one sale. -/
structure SaleL (q : List Bid) (rd : List Int) (l : List Nat) : Prop where
  up : l.Pairwise (· < ·)
  rdy : ∀ i ∈ l, ∃ b, q[i]? = some b ∧ readyB rd b = true
  ap : ∀ i ∈ l, ∀ j ∈ l, i ≠ j → ∀ a b, q[i]? = some a → q[j]? = some b → apartB a b = true
theorem SaleL.nil (q : List Bid) (rd : List Int) : SaleL q rd [] := ⟨.nil, fun _ h => by simp at h, fun _ h => by simp at h⟩
theorem SaleL.nodup {q : List Bid} {rd : List Int} {l : List Nat} (h : SaleL q rd l) : l.Nodup := h.up.imp fun hab e => by omega
theorem SaleL.lt {q : List Bid} {rd : List Int} {l : List Nat} (h : SaleL q rd l) {i : Nat} (hi : i ∈ l) : i < q.length := by
  obtain ⟨b, hb, _⟩ := h.rdy i hi
  exact (List.getElem?_eq_some_iff.1 hb).1
/-- Some of a sale's bids are a sale. -/
theorem SaleL.sub {q : List Bid} {rd : List Int} {l : List Nat} (h : SaleL q rd l) (p : Nat → Bool) : SaleL q rd (l.filter p) :=
  ⟨h.up.filter _, fun i hi => h.rdy i (List.mem_filter.1 hi).1, fun i hi j hj => h.ap i (List.mem_filter.1 hi).1 j (List.mem_filter.1 hj).1⟩
/-- A buyer has one bid of a sale at most. -/
theorem SaleL.one {q : List Bid} {rd : List Int} {l : List Nat} (h : SaleL q rd l) {i j : Nat} {a b : Bid} (hi : i ∈ l) (hj : j ∈ l) (ha : q[i]? = some a) (hb : q[j]? = some b) (hw : a.who = b.who) : i = j := by
  by_cases e : i = j
  · exact e
  · exact absurd hw (apart_iff.1 (h.ap i hi j hj e a b ha hb)).1
def payAt (q : List Bid) (i : Nat) : Int := match q[i]? with | some b => b.pay | none => 0
theorem payAt_some {q : List Bid} {i : Nat} {b : Bid} (h : q[i]? = some b) : payAt q i = b.pay := by unfold payAt; rw [h]
def bringsL (q : List Bid) (l : List Nat) : Int := (l.map (payAt q)).sum
theorem brings_nil (q : List Bid) : bringsL q [] = 0 := rfl
theorem brings_cons (q : List Bid) (i : Nat) (l : List Nat) : bringsL q (i :: l) = payAt q i + bringsL q l := by simp [bringsL]
theorem brings_app (q : List Bid) (l m : List Nat) : bringsL q (l ++ m) = bringsL q l + bringsL q m := by simp [bringsL]
/-- What a sale brings is what some of its bids bring, and what the others do. -/
theorem brings_split (q : List Bid) (p : Nat → Bool) : ∀ l : List Nat, bringsL q l = bringsL q (l.filter p) + bringsL q (l.filter fun i => !p i)
  | [] => rfl
  | i :: l => by
    have ih := brings_split q p l
    rw [brings_cons]
    cases h : p i
    · rw [List.filter_cons_of_neg (by simp [h]), List.filter_cons_of_pos (by simp [h]), brings_cons]; omega
    · rw [List.filter_cons_of_pos h, List.filter_cons_of_neg (by simp [h]), brings_cons]; omega
theorem brings_nonneg {q : List Bid} (hq : ∀ b ∈ q, 0 ≤ b.pay) : ∀ l : List Nat, 0 ≤ bringsL q l
  | [] => by simp [bringsL]
  | i :: l => by
    have := brings_nonneg hq l
    rw [brings_cons]
    have : 0 ≤ payAt q i := by
      unfold payAt
      cases h : q[i]? with
      | none => simp
      | some b => exact hq b (List.mem_of_getElem? h)
    omega
/-- With one bid alone of those for which p holds, these bring what it does. -/
theorem brings_one {q : List Bid} {p : Nat → Bool} {i : Nat} (hi : p i = true) : ∀ {l : List Nat}, l.Nodup → i ∈ l → (∀ j ∈ l, p j = true → j = i) → bringsL q (l.filter p) = payAt q i
  | [], _, h, _ => by simp at h
  | k :: l, hn, h, hu => by
    have hnd := List.nodup_cons.1 hn
    by_cases e : k = i
    · subst e
      rw [List.filter_cons_of_pos hi, brings_cons]
      have : l.filter p = [] := by
        rw [List.filter_eq_nil_iff]
        intro j hj hp
        have := hu j (by simp [hj]) hp
        subst this
        exact hnd.1 hj
      rw [this, brings_nil]; omega
    · have hk : ¬ p k = true := fun hp => e (hu k (by simp) hp)
      rw [List.filter_cons_of_neg hk]
      refine brings_one hi hnd.2 ?_ fun j hj => hu j (by simp [hj])
      rcases List.mem_cons.1 h with h | h
      · exact absurd h.symm e
      · exact h
theorem brings_none {q : List Bid} {p : Nat → Bool} {l : List Nat} (h : ∀ j ∈ l, ¬ p j = true) : bringsL q (l.filter p) = 0 := by
  rw [List.filter_eq_nil_iff.2 h]; rfl

/-! The best of those sales for which something holds. -/
/-- n is what the best of them bring; below 0: there is none. -/
structure MostIs (q : List Bid) (rd : List Int) (P : List Nat → Prop) (n : Int) : Prop where
  ge : ∀ l, SaleL q rd l → P l → bringsL q l ≤ n
  at_ : (n = -1 ∧ ∀ l, SaleL q rd l → ¬ P l) ∨ ∃ l, SaleL q rd l ∧ P l ∧ bringsL q l = n
theorem MostIs.unique {q : List Bid} {rd : List Int} {P : List Nat → Prop} {n m : Int} (h : MostIs q rd P n) (k : MostIs q rd P m) : n = m := by
  rcases h.at_ with ⟨h1, h2⟩ | ⟨l, h1, h2, h3⟩ <;> rcases k.at_ with ⟨k1, k2⟩ | ⟨l', k1, k2, k3⟩
  · omega
  · exact absurd k2 (h2 l' k1)
  · exact absurd h2 (k2 l h1)
  · have := h.ge l' k1 k2
    have := k.ge l h1 h2
    omega
theorem MostIs.all_nonneg {q : List Bid} {rd : List Int} {n : Int} (h : MostIs q rd (fun _ => True) n) : 0 ≤ n := h.ge [] (SaleL.nil q rd) trivial
/-- Less is asked for: the best do not bring less. -/
theorem MostIs.mono {q : List Bid} {rd : List Int} {P Q : List Nat → Prop} {n m : Int} (h : MostIs q rd P n) (k : MostIs q rd Q m) (hPQ : ∀ l, SaleL q rd l → P l → Q l) (hm : -1 ≤ m) : n ≤ m := by
  rcases h.at_ with ⟨h1, _⟩ | ⟨l, h1, h2, h3⟩
  · omega
  · rw [← h3]; exact k.ge l h1 (hPQ l h1 h2)
/-- One list of numbers comes ahead of another one: it is shorter, or as long and less. -/
def earlierN : List Nat → List Nat → Bool
  | x :: a, y :: b => if x = y then earlierN a b else decide (x < y)
  | _, _ => false
def aheadP (p b : List Nat) : Prop := p.length < b.length ∨ (p.length = b.length ∧ earlierN p b = true)
theorem earlierN_irr : ∀ (a : List Nat), earlierN a a = false
  | [] => rfl
  | x :: a => by simp only [earlierN, if_true]; exact earlierN_irr a
theorem earlierN_total : ∀ (a b : List Nat), a.length = b.length → a = b ∨ earlierN a b = true ∨ earlierN b a = true
  | [], [], _ => .inl rfl
  | x :: a, y :: b, h => by
    by_cases e : x = y
    · subst e
      rcases earlierN_total a b (by simpa using h) with h | h | h
      · exact .inl (by rw [h])
      · exact .inr (.inl (by simp [earlierN, h]))
      · exact .inr (.inr (by simp [earlierN, h]))
    · by_cases hl : x < y
      · exact .inr (.inl (by simp [earlierN, e, hl]))
      · exact .inr (.inr (by simp only [earlierN]; rw [if_neg (fun h => e h.symm)]; exact decide_eq_true (by omega)))
theorem earlierN_trans : ∀ {a b c : List Nat}, earlierN a b = true → earlierN b c = true → earlierN a c = true
  | [], _, _, h, _ => by simp [earlierN] at h
  | _ :: _, [], _, h, _ => by simp [earlierN] at h
  | _ :: _, _ :: _, [], _, h => by simp [earlierN] at h
  | x :: a, y :: b, z :: c, h1, h2 => by
    simp only [earlierN] at h1 h2 ⊢
    by_cases e1 : x = y
    · subst e1
      rw [if_pos rfl] at h1
      by_cases e2 : x = z
      · subst e2
        rw [if_pos rfl] at h2 ⊢
        exact earlierN_trans h1 h2
      · rw [if_neg e2] at h2 ⊢; exact h2
    · rw [if_neg e1, decide_eq_true_eq] at h1
      by_cases e2 : y = z
      · subst e2
        rw [if_neg e1]; exact decide_eq_true h1
      · rw [if_neg e2, decide_eq_true_eq] at h2
        rw [if_neg (by omega)]; exact decide_eq_true (by omega)
theorem ahead_irr (a : List Nat) : ¬ aheadP a a := by
  rintro (h | ⟨_, h⟩)
  · omega
  · rw [earlierN_irr] at h; cases h
theorem ahead_total (a b : List Nat) : a = b ∨ aheadP a b ∨ aheadP b a := by
  by_cases h : a.length = b.length
  · rcases earlierN_total a b h with h1 | h1 | h1
    · exact .inl h1
    · exact .inr (.inl (.inr ⟨h, h1⟩))
    · exact .inr (.inr (.inr ⟨h.symm, h1⟩))
  · by_cases hl : a.length < b.length
    · exact .inr (.inl (.inl hl))
    · exact .inr (.inr (.inl (by omega)))
theorem ahead_trans {a b c : List Nat} (h1 : aheadP a b) (h2 : aheadP b c) : aheadP a c := by
  rcases h1 with h1 | ⟨h1, h1'⟩ <;> rcases h2 with h2 | ⟨h2, h2'⟩
  · exact .inl (by omega)
  · exact .inl (by omega)
  · exact .inl (by omega)
  · exact .inr ⟨by omega, earlierN_trans h1' h2'⟩
/-- The winners: the first best sale. -/
structure WinIs (q : List Bid) (rd : List Int) (l : List Nat) : Prop where
  sale : SaleL q rd l
  ge : ∀ l', SaleL q rd l' → bringsL q l' ≤ bringsL q l
  first : ∀ l', SaleL q rd l' → bringsL q l' = bringsL q l → ¬ aheadP l' l
theorem WinIs.unique {q : List Bid} {rd : List Int} {l m : List Nat} (h : WinIs q rd l) (k : WinIs q rd m) : l = m := by
  have e : bringsL q l = bringsL q m := Int.le_antisymm (k.ge l h.sale) (h.ge m k.sale)
  rcases ahead_total l m with h1 | h1 | h1
  · exact h1
  · exact absurd h1 (k.first l h.sale e)
  · exact absurd h1 (h.first m k.sale e.symm)
theorem WinIs.most {q : List Bid} {rd : List Int} {l : List Nat} (h : WinIs q rd l) : MostIs q rd (fun _ => True) (bringsL q l) :=
  ⟨fun l' h' _ => h.ge l' h', .inr ⟨l, h.sale, trivial, rfl⟩⟩

/-! Sales in plain words: what a buyer pays; another price; the need of a bid. -/
/-- Is a bid one of a buyer? -/
def ownP (q : List Bid) (v : Int) (i : Nat) : Bool := match q[i]? with | some b => decide (b.who = v) | none => false
theorem own_some {q : List Bid} {v : Int} {i : Nat} {b : Bid} (h : q[i]? = some b) : ownP q v i = decide (b.who = v) := by unfold ownP; rw [h]
/-- A sale without bids of a buyer. -/
def NoneOf (q : List Bid) (v : Int) (l : List Nat) : Prop := ∀ i ∈ l, ¬ ownP q v i = true
theorem noneOf_others (q : List Bid) (v : Int) (l : List Nat) : NoneOf q v (l.filter fun i => !ownP q v i) := fun i hi => by
  have := (List.mem_filter.1 hi).2
  simpa using this
/-- What the other winners bring. -/
def othersL (q : List Bid) (v : Int) (l : List Nat) : Int := bringsL q (l.filter fun i => !ownP q v i)
def ownL (q : List Bid) (v : Int) (l : List Nat) : Int := bringsL q (l.filter (ownP q v))
theorem own_others (q : List Bid) (v : Int) (l : List Nat) : bringsL q l = ownL q v l + othersL q v l := brings_split q (ownP q v) l
theorem own_at {q : List Bid} {rd : List Int} {l : List Nat} (h : SaleL q rd l) {v : Int} {i : Nat} (hi : i ∈ l) (ho : ownP q v i = true) : ownL q v l = payAt q i := by
  refine brings_one ho h.nodup hi fun j hj hp => ?_
  obtain ⟨a, ha, _⟩ := h.rdy i hi
  obtain ⟨b, hb, _⟩ := h.rdy j hj
  rw [own_some ha, decide_eq_true_eq] at ho
  rw [own_some hb, decide_eq_true_eq] at hp
  exact h.one hj hi hb ha (by rw [hp, ho])
theorem own_none {q : List Bid} {v : Int} {l : List Nat} (h : NoneOf q v l) : ownL q v l = 0 := brings_none h
/-- What a buyer pays lies between nothing and the winning bid; m: the most without the buyer. -/
theorem pays_bd {q : List Bid} {rd : List Int} {v m : Int} {l : List Nat} (h : WinIs q rd l) (hm : MostIs q rd (NoneOf q v) m) : 0 ≤ m - othersL q v l ∧ m - othersL q v l ≤ ownL q v l ∧ m ≤ bringsL q l := by
  have h1 := hm.ge _ (h.sale.sub _) (noneOf_others q v l)
  have h2 : m ≤ bringsL q l := by
    rcases hm.at_ with ⟨_, h3⟩ | ⟨l', h3, _, h4⟩
    · exact absurd (noneOf_others q v l) (h3 _ (h.sale.sub _))
    · rw [← h4]; exact h.ge l' h3
  have h3 := own_others q v l
  unfold othersL at h3 ⊢
  omega
/-- Without a winning bid nothing is paid. -/
theorem pays_none {q : List Bid} {rd : List Int} {v m : Int} {l : List Nat} (h : WinIs q rd l) (hm : MostIs q rd (NoneOf q v) m) (hn : NoneOf q v l) : m - othersL q v l = 0 := by
  have := pays_bd h hm
  have := own_none hn
  omega
/-- What buyers below n bring together. -/
def ownTo (q : List Bid) (l : List Nat) (n : Nat) : Int := ((List.range n).map fun v : Nat => ownL q v l).sum
theorem ownTo_succ (q : List Bid) (l : List Nat) (n : Nat) : ownTo q l (n + 1) = ownTo q l n + ownL q n l := by
  unfold ownTo; rw [List.range_succ, List.map_append, List.sum_append]; simp
theorem ownL_cons (q : List Bid) (v : Int) (i : Nat) (l : List Nat) : ownL q v (i :: l) = (if ownP q v i = true then payAt q i else 0) + ownL q v l := by
  unfold ownL
  by_cases h : ownP q v i = true
  · rw [List.filter_cons_of_pos h, brings_cons, if_pos h]
  · rw [List.filter_cons_of_neg h, if_neg h]; omega
theorem ownTo_nil (q : List Bid) : ∀ n, ownTo q [] n = 0
  | 0 => rfl
  | n + 1 => by rw [ownTo_succ, ownTo_nil q n]; rfl
theorem ownTo_cons (q : List Bid) (i : Nat) (l : List Nat) : ∀ n, ownTo q (i :: l) n = ((List.range n).map fun v : Nat => if ownP q v i = true then payAt q i else 0).sum + ownTo q l n
  | 0 => rfl
  | n + 1 => by
    rw [ownTo_succ, ownTo_succ, ownTo_cons q i l n, ownL_cons, List.range_succ, List.map_append, List.sum_append]
    simp only [List.map_cons, List.map_nil, List.sum_cons, List.sum_nil]
    omega
theorem one_of (x w : Int) : ∀ n : Nat, 0 ≤ w → ((List.range n).map fun v : Nat => if decide (w = (v : Int)) = true then x else 0).sum = if w < n then x else 0
  | 0, h => by rw [if_neg (by omega)]; rfl
  | n + 1, h => by
    rw [List.range_succ, List.map_append, List.sum_append, one_of x w n h]
    simp only [List.map_cons, List.map_nil, List.sum_cons, List.sum_nil, decide_eq_true_eq]
    by_cases h1 : w < n
    · rw [if_pos h1, if_neg (by omega), if_pos (by omega)]; omega
    · by_cases h2 : w = n
      · rw [if_neg h1, if_pos h2, if_pos (by omega)]; omega
      · rw [if_neg h1, if_neg h2, if_neg (by omega)]; omega
/-- All that a sale brings is what its buyers bring. -/
theorem ownTo_all {q : List Bid} {n : Nat} : ∀ {l : List Nat}, (∀ i ∈ l, ∃ b, q[i]? = some b ∧ 0 ≤ b.who ∧ b.who < n) → ownTo q l n = bringsL q l
  | [], _ => by rw [ownTo_nil]; rfl
  | i :: l, h => by
    obtain ⟨b, hb, h1, h2⟩ := h i (by simp)
    rw [ownTo_cons, ownTo_all fun j hj => h j (by simp [hj]), brings_cons]
    have : ((List.range n).map fun v : Nat => if ownP q v i = true then payAt q i else 0) = (List.range n).map fun v : Nat => if decide (b.who = (v : Int)) = true then payAt q i else 0 := by
      apply List.map_congr_left
      intro v _
      rw [own_some hb]
    rw [this, one_of _ _ _ h1, if_pos h2]

/-! Sales in plain words: sets of bids as the bits of a number; the loops over all sets. -/
/-- The numbers below n that a set holds. -/
def bitsL (n m : Nat) : List Nat := (List.range n).filter fun i => m.testBit i
theorem mem_bits {n m i : Nat} : i ∈ bitsL n m ↔ i < n ∧ m.testBit i = true := by
  unfold bitsL; rw [List.mem_filter, List.mem_range]
theorem bits_up (n m : Nat) : (bitsL n m).Pairwise (· < ·) := List.pairwise_lt_range.filter _
theorem bits_len (n m : Nat) : (bitsL n m).length ≤ n := Nat.le_trans (List.length_filter_le _ _) (by simp)
theorem bits_succ (n m : Nat) : bitsL (n + 1) m = bitsL n m ++ if m.testBit n = true then [n] else [] := by
  unfold bitsL
  rw [List.range_succ, List.filter_append]
  congr 1
  cases h : m.testBit n <;> simp [h]
theorem bit_add8 : ∀ k, k < 8 → ∀ st, st < 2 ^ k → (st + 2 ^ k).testBit k = true ∧ st.testBit k = false ∧ ∀ i, i < k → (st + 2 ^ k).testBit i = st.testBit i := by decide +kernel
theorem bits_ext {n m m' : Nat} (h : ∀ i, i < n → m.testBit i = m'.testBit i) : bitsL n m = bitsL n m' := by
  unfold bitsL
  apply List.filter_congr
  intro i hi
  exact h i (List.mem_range.1 hi)
/-- Each ascending list of numbers below n is a set. -/
theorem bits_all : ∀ n, n ≤ 8 → ∀ l : List Nat, l.Pairwise (· < ·) → (∀ i ∈ l, i < n) → ∃ m, m < 2 ^ n ∧ bitsL n m = l
  | 0, _, l, _, h => by
    have : l = [] := by
      cases l with
      | nil => rfl
      | cons x l => exact absurd (h x (by simp)) (by omega)
    subst this
    exact ⟨0, by simp, rfl⟩
  | n + 1, hn, l, hp, h => by
    by_cases hm : n ∈ l
    · obtain ⟨a, b, rfl⟩ := List.append_of_mem hm
      rw [List.pairwise_append] at hp
      have hb : b = [] := by
        cases b with
        | nil => rfl
        | cons x b =>
          have h1 := List.pairwise_cons.1 hp.2.1
          have := h1.1 x (by simp)
          have := h x (by simp)
          omega
      subst hb
      obtain ⟨m, h1, h2⟩ := bits_all n (by omega) a hp.1 fun i hi => hp.2.2 i hi n (by simp)
      obtain ⟨k1, _, k3⟩ := bit_add8 n (by omega) m h1
      refine ⟨m + 2 ^ n, by rw [Nat.pow_succ]; omega, ?_⟩
      rw [bits_succ, if_pos k1, bits_ext k3, h2]
    · obtain ⟨m, h1, h2⟩ := bits_all n (by omega) l hp fun i hi => by
        have := h i hi
        have : i ≠ n := fun e => hm (e ▸ hi)
        omega
      obtain ⟨_, k2, _⟩ := bit_add8 n (by omega) m h1
      refine ⟨m, by rw [Nat.pow_succ]; omega, ?_⟩
      rw [bits_succ, if_neg (by simp [k2]), List.append_nil, h2]
/-- One more bid of a sale. -/
theorem sale_snoc {q : List Bid} {rd : List Int} {l : List Nat} {i : Nat} {b : Bid} (h : SaleL q rd l) (hi : ∀ j ∈ l, j < i) (hb : q[i]? = some b) : SaleL q rd (l ++ [i]) ↔ readyB rd b = true ∧ ∀ j ∈ l, ∀ a, q[j]? = some a → apartB a b = true := by
  constructor
  · intro hs
    refine ⟨?_, fun j hj a ha => hs.ap j (by simp [hj]) i (by simp) (by have := hi j hj; omega) a b ha hb⟩
    obtain ⟨c, hc, hr⟩ := hs.rdy i (by simp)
    rw [hb] at hc; cases hc
    exact hr
  · rintro ⟨h1, h2⟩
    refine ⟨?_, fun j hj => ?_, fun j hj k hk hne x y hx hy => ?_⟩
    · rw [List.pairwise_append]
      exact ⟨h.up, by simp, fun j hj k hk => by simp at hk; subst hk; exact hi j hj⟩
    · rcases List.mem_append.1 hj with hj | hj
      · exact h.rdy j hj
      · simp at hj; subst hj; exact ⟨b, hb, h1⟩
    · rcases List.mem_append.1 hj with hj1 | hj1 <;> rcases List.mem_append.1 hk with hk1 | hk1
      · exact h.ap j hj1 k hk1 hne x y hx hy
      · rw [List.mem_singleton.1 hk1, hb] at hy; cases hy
        exact h2 j hj1 x hx
      · rw [List.mem_singleton.1 hj1, hb] at hx; cases hx
        exact apart_symm (h2 k hk1 y hy)
      · exact absurd ((List.mem_singleton.1 hj1).trans (List.mem_singleton.1 hk1).symm) hne
theorem sale_pre {q : List Bid} {rd : List Int} {l m : List Nat} (h : SaleL q rd (l ++ m)) : SaleL q rd l :=
  ⟨(List.pairwise_append.1 h.up).1, fun i hi => h.rdy i (by simp [hi]), fun i hi j hj => h.ap i (by simp [hi]) j (by simp [hj])⟩
/-- n is what the best of the first k sets bring. -/
structure MostTo (q : List Bid) (rd : List Int) (P : List Nat → Prop) (k : Nat) (n : Int) : Prop where
  ge : ∀ m, m < k → SaleL q rd (bitsL q.length m) → P (bitsL q.length m) → bringsL q (bitsL q.length m) ≤ n
  at_ : (n = -1 ∧ ∀ m, m < k → SaleL q rd (bitsL q.length m) → ¬ P (bitsL q.length m)) ∨ ∃ m, m < k ∧ SaleL q rd (bitsL q.length m) ∧ P (bitsL q.length m) ∧ bringsL q (bitsL q.length m) = n
theorem MostTo.zero (q : List Bid) (rd : List Int) (P : List Nat → Prop) : MostTo q rd P 0 (-1) := ⟨fun m h => absurd h (by omega), .inl ⟨rfl, fun m h => absurd h (by omega)⟩⟩
theorem MostTo.skip {q : List Bid} {rd : List Int} {P : List Nat → Prop} {k : Nat} {n : Int} (h : MostTo q rd P k n) (hn : SaleL q rd (bitsL q.length k) → ¬ P (bitsL q.length k)) : MostTo q rd P (k + 1) n := by
  refine ⟨fun m hm h1 h2 => ?_, ?_⟩
  · by_cases e : m = k
    · subst e; exact absurd h2 (hn h1)
    · exact h.ge m (by omega) h1 h2
  · rcases h.at_ with ⟨e, h2⟩ | ⟨m, h1, h2⟩
    · refine .inl ⟨e, fun m hm h1 => ?_⟩
      by_cases e : m = k
      · subst e; exact hn h1
      · exact h2 m (by omega) h1
    · exact .inr ⟨m, by omega, h2⟩
theorem MostTo.take {q : List Bid} {rd : List Int} {P : List Nat → Prop} {k : Nat} {n : Int} (h : MostTo q rd P k n) (hs : SaleL q rd (bitsL q.length k)) (hp : P (bitsL q.length k)) (h0 : 0 ≤ bringsL q (bitsL q.length k)) : MostTo q rd P (k + 1) (max n (bringsL q (bitsL q.length k))) := by
  refine ⟨fun m hm h1 h2 => ?_, .inr ?_⟩
  · by_cases e : m = k
    · subst e; omega
    · have := h.ge m (by omega) h1 h2; omega
  · by_cases hle : bringsL q (bitsL q.length k) ≤ n
    · rcases h.at_ with ⟨e, _⟩ | ⟨m, h1, h2, h3, h4⟩
      · omega
      · exact ⟨m, by omega, h2, h3, by omega⟩
    · exact ⟨k, by omega, hs, hp, by omega⟩
theorem MostTo.all {q : List Bid} {rd : List Int} {P : List Nat → Prop} {n : Int} (hq : q.length ≤ 8) (h : MostTo q rd P (2 ^ q.length) n) : MostIs q rd P n := by
  have hset : ∀ l, SaleL q rd l → ∃ m, m < 2 ^ q.length ∧ bitsL q.length m = l := fun l hl => bits_all q.length hq l hl.up fun i hi => hl.lt hi
  refine ⟨fun l hl hp => ?_, ?_⟩
  · obtain ⟨m, h1, rfl⟩ := hset l hl
    exact h.ge m h1 hl hp
  · rcases h.at_ with ⟨e, h2⟩ | ⟨m, h1, h2, h3, h4⟩
    · refine .inl ⟨e, fun l hl => ?_⟩
      obtain ⟨m, h1, rfl⟩ := hset l hl
      exact h2 m h1 hl
    · exact .inr ⟨_, h2, h3, h4⟩
/-- The first best one of the first k sets. -/
structure WinTo (q : List Bid) (rd : List Int) (k : Nat) (l : List Nat) : Prop where
  sale : SaleL q rd l
  ge : ∀ m, m < k → SaleL q rd (bitsL q.length m) → bringsL q (bitsL q.length m) ≤ bringsL q l
  first : ∀ m, m < k → SaleL q rd (bitsL q.length m) → bringsL q (bitsL q.length m) = bringsL q l → ¬ aheadP (bitsL q.length m) l
theorem WinTo.skip {q : List Bid} {rd : List Int} {k : Nat} {l : List Nat} (h : WinTo q rd k l) (hn : SaleL q rd (bitsL q.length k) → bringsL q (bitsL q.length k) < bringsL q l ∨ (bringsL q (bitsL q.length k) = bringsL q l ∧ ¬ aheadP (bitsL q.length k) l)) : WinTo q rd (k + 1) l := by
  refine ⟨h.sale, fun m hm h1 => ?_, fun m hm h1 h2 => ?_⟩
  · by_cases e : m = k
    · subst e; rcases hn h1 with h2 | h2 <;> omega
    · exact h.ge m (by omega) h1
  · by_cases e : m = k
    · subst e; rcases hn h1 with h3 | h3
      · omega
      · exact h3.2
    · exact h.first m (by omega) h1 h2
theorem WinTo.take {q : List Bid} {rd : List Int} {k : Nat} {l : List Nat} (h : WinTo q rd k l) (hs : SaleL q rd (bitsL q.length k)) (hb : bringsL q l < bringsL q (bitsL q.length k) ∨ (bringsL q (bitsL q.length k) = bringsL q l ∧ aheadP (bitsL q.length k) l)) : WinTo q rd (k + 1) (bitsL q.length k) := by
  refine ⟨hs, fun m hm h1 => ?_, fun m hm h1 h2 h3 => ?_⟩
  · by_cases e : m = k
    · subst e; exact Int.le_refl _
    · have := h.ge m (by omega) h1
      rcases hb with hb | hb <;> omega
  · by_cases e : m = k
    · subst e; exact ahead_irr _ h3
    · have h4 := h.ge m (by omega) h1
      rcases hb with hb | ⟨hb, hb2⟩
      · omega
      · exact h.first m (by omega) h1 (by omega) (ahead_trans h3 hb2)
theorem WinTo.all {q : List Bid} {rd : List Int} {l : List Nat} (hq : q.length ≤ 8) (h : WinTo q rd (2 ^ q.length) l) : WinIs q rd l := by
  have hset : ∀ l, SaleL q rd l → ∃ m, m < 2 ^ q.length ∧ bitsL q.length m = l := fun l hl => bits_all q.length hq l hl.up fun i hi => hl.lt hi
  refine ⟨h.sale, fun l' hl => ?_, fun l' hl => ?_⟩
  · obtain ⟨m, h1, rfl⟩ := hset l' hl
    exact h.ge m h1 hl
  · obtain ⟨m, h1, rfl⟩ := hset l' hl
    exact h.first m h1 hl
theorem bits_zero (n : Nat) : bitsL n 0 = [] := by
  unfold bitsL
  rw [List.filter_eq_nil_iff]
  intro i _
  simp
/-- The empty set is the first one, a sale that brings nothing. -/
theorem WinTo.one (q : List Bid) (rd : List Int) : WinTo q rd 1 [] := by
  refine ⟨SaleL.nil q rd, fun m hm _ => ?_, fun m hm _ _ => ?_⟩
  · obtain rfl : m = 0 := by omega
    rw [bits_zero]; exact Int.le_refl _
  · obtain rfl : m = 0 := by omega
    rw [bits_zero]; exact ahead_irr _

/-! Sales in plain words: the specification's list of all sales; the first best of a list. -/
/-- b is the first best one of the first k. -/
structure BestTo (S : List (List Nat)) (f : List Nat → Int) (k : Nat) (b : List Nat) : Prop where
  mem : ∃ j, j < max 1 k ∧ S[j]? = some b
  ge : ∀ (j : Nat) (l : List Nat), j < k → S[j]? = some l → f l ≤ f b
  first : ∀ (j : Nat) (l : List Nat), j < k → S[j]? = some l → f l = f b → ¬ aheadP l b
theorem BestTo.zero {S : List (List Nat)} {f : List Nat → Int} {b : List Nat} (h : S[0]? = some b) : BestTo S f 0 b := ⟨⟨0, by omega, h⟩, fun j _ hj => absurd hj (by omega), fun j _ hj => absurd hj (by omega)⟩
theorem BestTo.next {S : List (List Nat)} {f : List Nat → Int} {k : Nat} {b l : List Nat} (hS : S.Pairwise aheadP) (h : BestTo S f k b) (hl : S[k]? = some l) : BestTo S f (k + 1) (if f b < f l then l else b) := by
  by_cases hlt : f b < f l
  · rw [if_pos hlt]
    refine ⟨⟨k, by omega, hl⟩, fun j m hj hm => ?_, fun j m hj hm he => ?_⟩
    · by_cases e : j = k
      · subst e; rw [hl] at hm; cases hm; exact Int.le_refl _
      · have := h.ge j m (by omega) hm; omega
    · by_cases e : j = k
      · subst e; rw [hl] at hm; cases hm; exact ahead_irr _
      · have := h.ge j m (by omega) hm; omega
  · rw [if_neg hlt]
    obtain ⟨j0, h1, h2⟩ := h.mem
    refine ⟨⟨j0, by omega, h2⟩, fun j m hj hm => ?_, fun j m hj hm he ha => ?_⟩
    · by_cases e : j = k
      · subst e; rw [hl] at hm; cases hm; omega
      · exact h.ge j m (by omega) hm
    · by_cases e : j = k
      · subst e
        rw [hl] at hm; cases hm
        by_cases e0 : j0 = j
        · subst e0; rw [hl] at h2; cases h2; exact ahead_irr _ ha
        · have hlt2 : j0 < j := by omega
          obtain ⟨k1, k2⟩ := List.getElem?_eq_some_iff.1 h2
          obtain ⟨k3, k4⟩ := List.getElem?_eq_some_iff.1 hl
          have := List.pairwise_iff_getElem.1 hS j0 j k1 k3 hlt2
          rw [k2, k4] at this
          exact ahead_irr _ (ahead_trans this ha)
      · exact h.first j m (by omega) hm he ha
/-- How many bids a sale has at most. -/
theorem len_of_subI : ∀ (l m : List Int), l.Nodup → (∀ x ∈ l, x ∈ m) → l.length ≤ m.length
  | [], m, _, _ => Nat.zero_le _
  | x :: l, m, hn, hs => by
    obtain ⟨a, b, rfl⟩ := List.append_of_mem (hs x (by simp))
    have hnd := List.nodup_cons.1 hn
    have := len_of_subI l (a ++ b) hnd.2 fun y hy => by
      have hm := hs y (by simp [hy])
      have hne : y ≠ x := fun e => hnd.1 (e ▸ hy)
      simp only [List.mem_append, List.mem_cons] at hm ⊢
      rcases hm with hm | hm | hm
      · exact .inl hm
      · exact absurd hm hne
      · exact .inr hm
    simp only [List.length_append, List.length_cons] at this ⊢
    omega
def whoAt (q : List Bid) (i : Nat) : Int := match q[i]? with | some b => b.who | none => -1
def barAt (q : List Bid) (i : Nat) : Int := match q[i]? with | some b => b.bar.getD 0 (-1) | none => -1
theorem nodup_map_of {f : Nat → Int} : ∀ {l : List Nat}, l.Nodup → (∀ i ∈ l, ∀ j ∈ l, i ≠ j → f i ≠ f j) → (l.map f).Nodup := fun {l} hn h => by
  unfold List.Nodup at hn ⊢
  rw [List.pairwise_map]
  exact hn.imp_of_mem fun {a b} ha hb hab => h a ha b hb hab
theorem sale_buyers {q : List Bid} {rd : List Int} {l : List Nat} {n : Nat} (h : SaleL q rd l) (hq : ∀ b ∈ q, 0 ≤ b.who ∧ b.who < n) : l.length ≤ n := by
  have hn : (l.map (whoAt q)).Nodup := nodup_map_of h.nodup fun i hi j hj hne e => by
    obtain ⟨a, ha, _⟩ := h.rdy i hi
    obtain ⟨b, hb, _⟩ := h.rdy j hj
    unfold whoAt at e
    rw [ha, hb] at e
    exact hne (h.one hi hj ha hb e)
  have := len_of_subI _ ((List.range n).map fun v : Nat => (v : Int)) hn fun x hx => by
    obtain ⟨i, hi, rfl⟩ := List.mem_map.1 hx
    obtain ⟨a, ha, _⟩ := h.rdy i hi
    have := hq a (List.mem_of_getElem? ha)
    unfold whoAt
    rw [ha]
    exact List.mem_map.2 ⟨a.who.toNat, List.mem_range.2 (by omega), (show ((a.who.toNat : Nat) : Int) = a.who by omega)⟩
  simpa using this
theorem sale_ready {q : List Bid} {rd : List Int} {l : List Nat} (h : SaleL q rd l) (hq : ∀ b ∈ q, b.bar ≠ []) : l.length ≤ rd.length := by
  have hat : ∀ {i : Nat} {a : Bid}, q[i]? = some a → barAt q i ∈ a.bar := fun {i a} ha => by
    have hne := hq a (List.mem_of_getElem? ha)
    unfold barAt
    rw [ha]
    match hb : a.bar, hne with
    | x :: r, _ => simp [hb]
  have hn : (l.map (barAt q)).Nodup := nodup_map_of h.nodup fun i hi j hj hne e => by
    obtain ⟨a, ha, _⟩ := h.rdy i hi
    obtain ⟨b, hb, _⟩ := h.rdy j hj
    have h1 := hat ha
    have h2 := hat hb
    rw [← e] at h2
    exact (apart_iff.1 (h.ap i hi j hj hne a b ha hb)).2 _ h1 h2
  have := len_of_subI _ rd hn fun x hx => by
    obtain ⟨i, hi, rfl⟩ := List.mem_map.1 hx
    obtain ⟨a, ha, hr⟩ := h.rdy i hi
    exact ready_iff.1 hr _ (hat ha)
  simpa using this
/-! Sales in plain words: the specification's list of all sales, built row by row. -/
/-- What follows the last number of a list. -/
def nextN (f : List Nat) : Nat := match f.getLast? with | none => 0 | some x => x + 1
theorem nextN_nil : nextN [] = 0 := rfl
theorem nextN_snoc (f : List Nat) (x : Nat) : nextN (f ++ [x]) = x + 1 := by unfold nextN; simp
theorem snoc_indN {P : List Nat → Prop} (h0 : P []) (h1 : ∀ l x, P l → P (l ++ [x])) (l : List Nat) : P l := by
  rw [← List.reverse_reverse l]
  induction l.reverse with
  | nil => exact h0
  | cons x r ih => rw [List.reverse_cons]; exact h1 _ _ ih
theorem next_le {f : List Nat} {b : Nat} (hp : f.Pairwise (· < ·)) : nextN f ≤ b ↔ ∀ x ∈ f, x < b := by
  revert hp
  refine snoc_indN (P := fun f => f.Pairwise (· < ·) → (nextN f ≤ b ↔ ∀ x ∈ f, x < b)) (fun _ => by simp [nextN_nil]) (fun g y _ hp => ?_) f
  rw [nextN_snoc]
  rw [List.pairwise_append] at hp
  constructor
  · intro h x hx
    rcases List.mem_append.1 hx with hx | hx
    · have := hp.2.2 x hx y (by simp); omega
    · simp at hx; omega
  · intro h
    have := h y (by simp)
    omega
/-- All ascending lists of n more numbers below nb that begin with some. -/
def combN (nb : Nat) : Nat → List Nat → List (List Nat)
  | 0, f => [f]
  | n + 1, f => (List.range (nb - nextN f)).flatMap fun j : Nat => combN nb n (f ++ [nextN f + j])
theorem up_snoc {f : List Nat} {b : Nat} (hp : f.Pairwise (· < ·)) (h : ∀ x ∈ f, x < b) : (f ++ [b]).Pairwise (· < ·) := by
  rw [List.pairwise_append]
  exact ⟨hp, by simp, fun x hx y hy => by simp at hy; subst hy; exact h x hx⟩
theorem mem_combN {nb : Nat} : ∀ (n : Nat) (f p : List Nat), f.Pairwise (· < ·) → (∀ x ∈ f, x < nb) → (p ∈ combN nb n f ↔ ∃ t, p = f ++ t ∧ t.length = n ∧ p.Pairwise (· < ·) ∧ ∀ x ∈ p, x < nb)
  | 0, f, p, hf, hb => by
    simp only [combN, List.mem_singleton]
    constructor
    · rintro rfl; exact ⟨[], by simp, rfl, hf, hb⟩
    · rintro ⟨t, rfl, h, _⟩; rw [List.length_eq_zero_iff.1 h, List.append_nil]
  | n + 1, f, p, hf, hb => by
    simp only [combN, List.mem_flatMap, List.mem_range]
    constructor
    · rintro ⟨j, hj, h⟩
      have hlt := (next_le hf (b := nextN f + j)).1 (by omega)
      obtain ⟨t, rfl, h1, h2, h3⟩ := (mem_combN n _ p (up_snoc hf hlt) (fun x hx => by
        rcases List.mem_append.1 hx with hx | hx
        · exact hb x hx
        · simp at hx; omega)).1 h
      exact ⟨(nextN f + j) :: t, by simp, by simp [h1], h2, h3⟩
    · rintro ⟨t, rfl, h1, h2, h3⟩
      match t, h1 with
      | y :: t, h1 =>
        have hy := h3 y (by simp)
        have e : f ++ y :: t = (f ++ [y]) ++ t := by simp
        have hlt : ∀ x ∈ f, x < y := fun x hx => (List.pairwise_append.1 h2).2.2 x hx y (by simp)
        have hle := (next_le hf).2 hlt
        have ey : nextN f + (y - nextN f) = y := by omega
        refine ⟨y - nextN f, by omega, ?_⟩
        rw [ey]
        refine (mem_combN n _ _ (up_snoc hf hlt) (fun x hx => by
          rcases List.mem_append.1 hx with hx | hx
          · exact hb x hx
          · simp at hx; omega)).2 ⟨t, e, by simpa using h1, h2, h3⟩
theorem combN_iff {nb n : Nat} {p : List Nat} : p ∈ combN nb n [] ↔ p.length = n ∧ p.Pairwise (· < ·) ∧ ∀ x ∈ p, x < nb := by
  rw [mem_combN n [] p (by simp) (by simp)]
  constructor
  · rintro ⟨t, rfl, h1, h2, h3⟩; exact ⟨by simpa using h1, h2, h3⟩
  · rintro ⟨h1, h2, h3⟩; exact ⟨p, by simp, h1, h2, h3⟩
/-- The sales of fewer bids, and those among the first i lists of as many. -/
structure SpecTo (q : List Bid) (rd : List Int) (many i : Nat) (out : List (List Nat)) : Prop where
  up : out.Pairwise aheadP
  mem : ∀ l, l ∈ out ↔ SaleL q rd l ∧ (l.length < many ∨ ∃ j, j < i ∧ (combN q.length many [])[j]? = some l)
theorem SpecTo.one (q : List Bid) (rd : List Int) : SpecTo q rd 1 0 [[]] := by
  refine ⟨by simp, fun l => ?_⟩
  rw [List.mem_singleton]
  constructor
  · rintro rfl; exact ⟨SaleL.nil q rd, .inl (by simp)⟩
  · rintro ⟨_, h | ⟨j, hj, _⟩⟩
    · exact List.length_eq_zero_iff.1 (by omega)
    · omega
theorem SpecTo.no {q : List Bid} {rd : List Int} {many i : Nat} {out : List (List Nat)} {l : List Nat} (h : SpecTo q rd many i out) (hl : (combN q.length many [])[i]? = some l) (hn : ¬ SaleL q rd l) : SpecTo q rd many (i + 1) out := by
  refine ⟨h.up, fun m => ?_⟩
  rw [h.mem]
  constructor
  · rintro ⟨h1, h2 | ⟨j, h2, h3⟩⟩
    · exact ⟨h1, .inl h2⟩
    · exact ⟨h1, .inr ⟨j, by omega, h3⟩⟩
  · rintro ⟨h1, h2 | ⟨j, h2, h3⟩⟩
    · exact ⟨h1, .inl h2⟩
    · by_cases e : j = i
      · subst e; rw [hl] at h3; cases h3; exact absurd h1 hn
      · exact ⟨h1, .inr ⟨j, by omega, h3⟩⟩
theorem SpecTo.row {q : List Bid} {rd : List Int} {many : Nat} {out : List (List Nat)} (h : SpecTo q rd many (combN q.length many []).length out) : SpecTo q rd (many + 1) 0 out := by
  refine ⟨h.up, fun l => ?_⟩
  rw [h.mem]
  constructor
  · rintro ⟨h1, h2 | ⟨j, h2, h3⟩⟩
    · exact ⟨h1, .inl (by omega)⟩
    · have := (combN_iff.1 (List.mem_of_getElem? h3)).1
      exact ⟨h1, .inl (by omega)⟩
  · rintro ⟨h1, h2 | ⟨j, h2, _⟩⟩
    · by_cases e : l.length < many
      · exact ⟨h1, .inl e⟩
      · obtain ⟨j, hj⟩ := List.getElem?_of_mem (combN_iff.2 ⟨show l.length = many by omega, h1.up, fun x hx => h1.lt hx⟩)
        exact ⟨h1, .inr ⟨j, (List.getElem?_eq_some_iff.1 hj).1, hj⟩⟩
    · omega
/-- Behind the last row all sales are there. -/
theorem SpecTo.all {q : List Bid} {rd : List Int} {many n : Nat} {out : List (List Nat)} (h : SpecTo q rd many 0 out) (hm : n < many ∨ rd.length < many) (hw : ∀ b ∈ q, 0 ≤ b.who ∧ b.who < n) (hb : ∀ b ∈ q, b.bar ≠ []) : ∀ l, l ∈ out ↔ SaleL q rd l := fun l => by
  rw [h.mem]
  constructor
  · exact fun h => h.1
  · intro hs
    have h1 := sale_buyers hs hw
    have h2 := sale_ready hs hb
    exact ⟨hs, .inl (by omega)⟩

/-! Sales in plain words: sets of buyers and barrels as bits; the loop of brings. -/
/-- u is the set of the numbers l, all below 4. -/
structure MaskOf (l : List Int) (u : Nat) : Prop where
  lt : u < 16
  bit : ∀ i : Nat, i < 4 → (u.testBit i = true ↔ (i : Int) ∈ l)
theorem or_bit4 : ∀ u, u < 16 → ∀ j, j < 4 → (u ||| (1 <<< j)) < 16 ∧ ∀ i, i < 4 → (u ||| (1 <<< j)).testBit i = (u.testBit i || decide (i = j)) := by decide +kernel
theorem or_two4 : ∀ u, u < 16 → ∀ v, v < 16 → (u ||| v) < 16 ∧ ∀ i, i < 4 → (u ||| v).testBit i = (u.testBit i || v.testBit i) := by decide +kernel
theorem and_two4 : ∀ u, u < 16 → ∀ v, v < 16 → (decide (u &&& v = 0)) = ((List.range 4).all fun i => !(u.testBit i && v.testBit i)) := by decide +kernel
theorem MaskOf.nil : MaskOf [] 0 := ⟨by omega, by simp⟩
theorem MaskOf.snoc {l : List Int} {u j : Nat} (h : MaskOf l u) (hj : j < 4) : MaskOf (l ++ [(j : Int)]) (u ||| (1 <<< j)) := by
  obtain ⟨h1, h2⟩ := or_bit4 u h.lt j hj
  refine ⟨h1, fun i hi => ?_⟩
  rw [h2 i hi, Bool.or_eq_true, decide_eq_true_eq, h.bit i hi, List.mem_append, List.mem_singleton]
  constructor
  · rintro (h | h)
    · exact .inl h
    · exact .inr (by omega)
  · rintro (h | h)
    · exact .inl h
    · exact .inr (by omega)
theorem MaskOf.app {l m : List Int} {u v : Nat} (h : MaskOf l u) (k : MaskOf m v) : MaskOf (l ++ m) (u ||| v) := by
  obtain ⟨h1, h2⟩ := or_two4 u h.lt v k.lt
  refine ⟨h1, fun i hi => ?_⟩
  rw [h2 i hi, Bool.or_eq_true, h.bit i hi, k.bit i hi, List.mem_append]
/-- No number is in both sets. -/
theorem mask_apart {l m : List Int} {u v : Nat} (h : MaskOf l u) (k : MaskOf m v) (hm : ∀ x ∈ m, 0 ≤ x ∧ x < 4) : u &&& v = 0 ↔ ∀ x ∈ m, x ∉ l := by
  have e := and_two4 u h.lt v k.lt
  rw [← decide_eq_true_iff (p := u &&& v = 0), e, List.all_eq_true]
  constructor
  · intro ha x hx hl
    obtain ⟨i, rfl⟩ : ∃ i : Nat, x = i := ⟨x.toNat, by have := hm x hx; omega⟩
    have hi : i < 4 := by have := hm _ hx; omega
    have := ha i (List.mem_range.2 hi)
    rw [(h.bit i hi).2 hl, (k.bit i hi).2 hx] at this
    cases this
  · intro ha i hi
    have hi4 := List.mem_range.1 hi
    cases hu : u.testBit i
    · rfl
    · cases hv : v.testBit i
      · rfl
      · exact absurd ((h.bit i hi4).1 hu) (ha _ ((k.bit i hi4).1 hv))
theorem andnot4 : ∀ m, m < 16 → ∀ r, r < 16 → (decide (m &&& (15 - r) = 0)) = ((List.range 4).all fun i => !m.testBit i || r.testBit i) := by decide +kernel
/-- Each number of one set is in the other one. -/
theorem mask_within {l m : List Int} {u v : Nat} (h : MaskOf l u) (k : MaskOf m v) (hm : ∀ x ∈ m, 0 ≤ x ∧ x < 4) : v &&& (15 - u) = 0 ↔ ∀ x ∈ m, x ∈ l := by
  have e := andnot4 v k.lt u h.lt
  rw [← decide_eq_true_iff (p := v &&& (15 - u) = 0), e, List.all_eq_true]
  constructor
  · intro ha x hx
    obtain ⟨i, rfl⟩ : ∃ i : Nat, x = i := ⟨x.toNat, by have := hm x hx; omega⟩
    have hi : i < 4 := by have := hm _ hx; omega
    have := ha i (List.mem_range.2 hi)
    rw [(k.bit i hi).2 hx] at this
    exact (h.bit i hi).1 (by simpa using this)
  · intro ha i hi
    have hi4 := List.mem_range.1 hi
    cases hv : v.testBit i
    · rfl
    · rw [(h.bit i hi4).2 (ha _ ((k.bit i hi4).1 hv))]; rfl
def barsOf (q : List Bid) (p : List Nat) : List Int := p.flatMap fun j => match q[j]? with | some b => b.bar | none => []
theorem barsOf_app (q : List Bid) (p : List Nat) {i : Nat} {b : Bid} (h : q[i]? = some b) : barsOf q (p ++ [i]) = barsOf q p ++ b.bar := by
  unfold barsOf
  rw [List.flatMap_append]
  simp [h]
theorem mem_barsOf {q : List Bid} {p : List Nat} {x : Int} : x ∈ barsOf q p ↔ ∃ j ∈ p, ∃ b, q[j]? = some b ∧ x ∈ b.bar := by
  unfold barsOf
  rw [List.mem_flatMap]
  constructor
  · rintro ⟨j, hj, hx⟩
    cases hb : q[j]? with
    | none => rw [hb] at hx; simp at hx
    | some b => rw [hb] at hx; exact ⟨j, hj, b, hb, hx⟩
  · rintro ⟨j, hj, b, hb, hx⟩
    exact ⟨j, hj, by rw [hb]; exact hx⟩
/-- Behind the bids p of a sale: its buyers u, its barrels v, and what it brings. -/
structure BrTo (q : List Bid) (rd : List Int) (p : List Nat) (u v : Nat) (n : Int) : Prop where
  sale : SaleL q rd p
  bu : MaskOf (p.map (whoAt q)) u
  bv : MaskOf (barsOf q p) v
  val : n = bringsL q p
theorem BrTo.nil (q : List Bid) (rd : List Int) : BrTo q rd [] 0 0 0 := ⟨SaleL.nil q rd, MaskOf.nil, MaskOf.nil, rfl⟩
theorem BrTo.iff {q : List Bid} {rd : List Int} {p : List Nat} {u v r m w i : Nat} {n : Int} {b : Bid} (h : BrTo q rd p u v n) (hi : ∀ j ∈ p, j < i) (hb : q[i]? = some b) (hw : b.who = w) (hw4 : w < 4) (hm : MaskOf b.bar m) (hb4 : ∀ x ∈ b.bar, 0 ≤ x ∧ x < 4) (hr : MaskOf rd r) :
    SaleL q rd (p ++ [i]) ↔ u.testBit w = false ∧ v &&& m = 0 ∧ m &&& (15 - r) = 0 := by
  rw [sale_snoc h.sale hi hb, ready_iff, mask_within hr hm hb4, mask_apart h.bv hm hb4]
  have hu : u.testBit w = false ↔ ∀ j ∈ p, ∀ a, q[j]? = some a → a.who ≠ b.who := by
    rw [← Bool.not_eq_true, h.bu.bit w hw4, List.mem_map]
    constructor
    · intro hn j hj a ha e
      exact hn ⟨j, hj, by unfold whoAt; rw [ha]; show a.who = (w : Int); rw [e, hw]⟩
    · rintro hn ⟨j, hj, e⟩
      obtain ⟨a, ha, _⟩ := h.sale.rdy j hj
      unfold whoAt at e
      rw [ha] at e
      exact hn j hj a ha ((show a.who = (w : Int) from e).trans hw.symm)
  rw [hu]
  constructor
  · rintro ⟨h1, h2⟩
    refine ⟨fun j hj a ha => (apart_iff.1 (h2 j hj a ha)).1, fun x hx hxl => ?_, h1⟩
    obtain ⟨j, hj, a, ha, hxa⟩ := mem_barsOf.1 hxl
    exact (apart_iff.1 (h2 j hj a ha)).2 x hxa hx
  · rintro ⟨h1, h2, h3⟩
    exact ⟨h3, fun j hj a ha => apart_iff.2 ⟨h1 j hj a ha, fun x hxa hxb => h2 x hxb (mem_barsOf.2 ⟨j, hj, a, ha, hxa⟩)⟩⟩
theorem BrTo.next {q : List Bid} {rd : List Int} {p : List Nat} {u v m w i : Nat} {n : Int} {b : Bid} (h : BrTo q rd p u v n) (hs : SaleL q rd (p ++ [i])) (hb : q[i]? = some b) (hw : b.who = w) (hw4 : w < 4) (hm : MaskOf b.bar m) : BrTo q rd (p ++ [i]) (u ||| (1 <<< w)) (v ||| m) (n + b.pay) := by
  refine ⟨hs, ?_, ?_, ?_⟩
  · rw [List.map_append]
    have : [i].map (whoAt q) = [(w : Int)] := by simp [whoAt, hb, hw]
    rw [this]
    exact h.bu.snoc hw4
  · rw [barsOf_app q p hb]; exact h.bv.app hm
  · rw [brings_app, h.val, brings_cons, brings_nil, payAt_some hb]; omega

end Go.Proofs.Ytmbcpmnigggbaaa
namespace Go.Proofs.Ytmbcpmnigggbaaa
open Go.RowKit

/-! A fair and its memory. -/
structure Fair where
  h : House
  pk : List Int
  day : Int
  nb : Int
  q : List Bid
/-- Where the slices of a fair lie. -/
structure FL where
  L : HL
  Ap : Option Addr
  cp : Nat
  Aq : Option Addr
  cq : Nat
abbrev FL.cells (F : FL) (f : Fair) : Array Value := #[.slice F.L.Ak f.h.ks.length F.L.ck, .int .i64 f.h.fl, .slice F.L.Ap f.h.ps.length F.L.cp, .slice F.L.Ab f.h.bs.length F.L.cb, .slice F.Ap f.pk.length F.cp, .int .i64 f.day, .int .i64 f.nb, .slice F.Aq f.q.length F.cq]
abbrev FL.enc (F : FL) (f : Fair) : Value := .agg #[.slice F.L.Ak f.h.ks.length F.L.ck, .int .i64 f.h.fl, .slice F.L.Ap f.h.ps.length F.L.cp, .slice F.L.Ab f.h.bs.length F.L.cb, .slice F.Ap f.pk.length F.cp, .int .i64 f.day, .int .i64 f.nb, .slice F.Aq f.q.length F.cq]
/-- The bids l lie at A. -/
def BidsAt (W : World) (B : Nat) (A : Option Addr) (l : List Bid) : Prop :=
  l = [] ∨ ∃ b off, A = some ⟨b, off, none⟩ ∧ b < B ∧ ∀ i x, l[i]? = some x → W.cell? ⟨b, off + i * 3, none⟩ = some (.int .i64 x.who) ∧ W.cell? ⟨b, off + i * 3 + 2, none⟩ = some (.int .i64 x.pay) ∧
    ∃ A' c', W.cell? ⟨b, off + i * 3 + 1, none⟩ = some (.slice A' x.bar.length c') ∧ (A' = none → c' = 0 ∧ x.bar = []) ∧ IntsAt W B A' x.bar
theorem BidsAt.keep {W W' : World} {B B' : Nat} {A : Option Addr} {l : List Bid} (h : BidsAt W B A l) (hB : B ≤ B') (hk : ∀ b o, b < B → W'.cell? ⟨b, o, none⟩ = W.cell? ⟨b, o, none⟩) : BidsAt W' B' A l := by
  rcases h with h | ⟨b, off, hA, hb, hc⟩
  · exact .inl h
  · refine .inr ⟨b, off, hA, by omega, fun i x hx => ?_⟩
    obtain ⟨h1, h2, A', c', h3, h4, h5⟩ := hc i x hx
    rw [hk _ _ hb, hk _ _ hb, hk _ _ hb]
    exact ⟨h1, h2, A', c', h3, h4, h5.keep hB hk⟩
theorem BidsAt.at_ {W : World} {B : Nat} {A : Option Addr} {l : List Bid} (h : BidsAt W B A l) {k : Nat} {x : Bid} (hx : l[k]? = some x) : ∃ b off A' c', A = some ⟨b, off, none⟩ ∧ b < B ∧
    W.cell? ⟨b, off + k * 3, none⟩ = some (.int .i64 x.who) ∧ W.cell? ⟨b, off + k * 3 + 1, none⟩ = some (.slice A' x.bar.length c') ∧ W.cell? ⟨b, off + k * 3 + 2, none⟩ = some (.int .i64 x.pay) ∧ (A' = none → c' = 0 ∧ x.bar = []) ∧ IntsAt W B A' x.bar := by
  rcases h with h | ⟨b, off, hA, hb, hc⟩
  · subst h; simp at hx
  · obtain ⟨h1, h2, A', c', h3, h4, h5⟩ := hc k x hx
    exact ⟨b, off, A', c', hA, hb, h1, h3, h2, h4, h5⟩
theorem BidsAt.drew {W : World} {B : Nat} {A : Option Addr} {l : List Bid} (h : BidsAt W B A l) : BidsAt W.drew B A l := h
structure FairAt (W : World) (B : Nat) (F : FL) (f : Fair) : Prop where
  h : HouseAt W B F.L f.h
  p : IntsAt W B F.Ap f.pk
  q : BidsAt W B F.Aq f.q
theorem FairAt.keep {W W' : World} {B B' : Nat} {F : FL} {f : Fair} (H : FairAt W B F f) (hB : B ≤ B') (hk : ∀ b o, b < B → W'.cell? ⟨b, o, none⟩ = W.cell? ⟨b, o, none⟩) : FairAt W' B' F f :=
  ⟨H.h.keep hB hk, H.p.keep hB hk, H.q.keep hB hk⟩
theorem FairAt.below {W W' : World} {F : FL} {f : Fair} (H : FairAt W W.heap.size F f) (hb : Below W.heap.size W W') : FairAt W' W'.heap.size F f :=
  H.keep hb.size fun _ _ hlt => hb.cell (p := ⟨_, _, none⟩) hlt
theorem FairAt.drew {W : World} {B : Nat} {F : FL} {f : Fair} (H : FairAt W B F f) : FairAt W.drew B F f := ⟨H.h.drew, H.p, H.q⟩
/-- The fair in a block of its own. -/
def FBox (W : World) (b : Nat) (F : FL) (f : Fair) : Prop := W.heap[b]? = some (.cells #[.slice F.L.Ak f.h.ks.length F.L.ck, .int .i64 f.h.fl, .slice F.L.Ap f.h.ps.length F.L.cp, .slice F.L.Ab f.h.bs.length F.L.cb, .slice F.Ap f.pk.length F.cp, .int .i64 f.day, .int .i64 f.nb, .slice F.Aq f.q.length F.cq] 62 (0, 0))
theorem FBox.cells {W : World} {b : Nat} {F : FL} {f : Fair} (hb : FBox W b F f) : W.cell? ⟨b, 0, none⟩ = some (.slice F.L.Ak f.h.ks.length F.L.ck) ∧ W.cell? ⟨b, 1, none⟩ = some (.int .i64 f.h.fl) ∧ W.cell? ⟨b, 2, none⟩ = some (.slice F.L.Ap f.h.ps.length F.L.cp) ∧ W.cell? ⟨b, 3, none⟩ = some (.slice F.L.Ab f.h.bs.length F.L.cb) ∧ W.cell? ⟨b, 4, none⟩ = some (.slice F.Ap f.pk.length F.cp) ∧ W.cell? ⟨b, 5, none⟩ = some (.int .i64 f.day) ∧ W.cell? ⟨b, 6, none⟩ = some (.int .i64 f.nb) ∧ W.cell? ⟨b, 7, none⟩ = some (.slice F.Aq f.q.length F.cq) := by
  simp [World.cell?, show W.heap[b]? = _ from hb]
theorem FBox.new (W : World) (F : FL) (f : Fair) : FBox (W.alloc (.cells #[.slice F.L.Ak f.h.ks.length F.L.ck, .int .i64 f.h.fl, .slice F.L.Ap f.h.ps.length F.L.cp, .slice F.L.Ab f.h.bs.length F.L.cb, .slice F.Ap f.pk.length F.cp, .int .i64 f.day, .int .i64 f.nb, .slice F.Aq f.q.length F.cq] 62)) W.heap.size F f := World.alloc_heap_new W _
theorem FBox.lt {W : World} {b : Nat} {F : FL} {f : Fair} (hb : FBox W b F f) : b < W.heap.size := (Array.getElem?_eq_some_iff.1 hb).1
theorem FBox.of {W W' : World} {b : Nat} {F : FL} {f : Fair} (hb : FBox W b F f) (e : W'.heap[b]? = W.heap[b]?) : FBox W' b F f := e.trans hb
theorem FBox.below {W W' : World} {b : Nat} {F : FL} {f : Fair} (hb : FBox W b F f) (h : Below W.heap.size W W') : FBox W' b F f := hb.of (h.block b hb.lt)
/-- A bid in a block of its own. -/
def BBox (W : World) (k : Nat) (A : Option Addr) (c : Nat) (b : Bid) : Prop := W.heap[k]? = some (.cells #[.int .i64 b.who, .slice A b.bar.length c, .int .i64 b.pay] 68 (0, 0))
theorem BBox.cells {W : World} {k : Nat} {A : Option Addr} {c : Nat} {b : Bid} (h : BBox W k A c b) : W.cell? ⟨k, 0, none⟩ = some (.int .i64 b.who) ∧ W.cell? ⟨k, 1, none⟩ = some (.slice A b.bar.length c) ∧ W.cell? ⟨k, 2, none⟩ = some (.int .i64 b.pay) := by
  simp [World.cell?, show W.heap[k]? = _ from h]
theorem BBox.new (W : World) (A : Option Addr) (c : Nat) (b : Bid) : BBox (W.alloc (.cells #[.int .i64 b.who, .slice A b.bar.length c, .int .i64 b.pay] 68)) W.heap.size A c b := World.alloc_heap_new W _
theorem BBox.lt {W : World} {k : Nat} {A : Option Addr} {c : Nat} {b : Bid} (h : BBox W k A c b) : k < W.heap.size := (Array.getElem?_eq_some_iff.1 h).1
theorem BBox.of {W W' : World} {k : Nat} {A : Option Addr} {c : Nat} {b : Bid} (h : BBox W k A c b) (e : W'.heap[k]? = W.heap[k]?) : BBox W' k A c b := e.trans h

/-! What is valid. -/
structure FN (f : Fair) : Prop where
  h : f.h.ks.length ≤ 1000 ∧ f.h.ps.length ≤ 1000 ∧ f.h.bs.length ≤ 1000
  p : f.pk.length ≤ 1000
  q : f.q.length ≤ 1000
  b : ∀ b ∈ f.q, b.bar.length ≤ 1000
def bidOK (f : Fair) (b : Bid) : Bool := inR b.who 0 (f.nb - 1) && (inR b.pay 0 99 && (decide (b.bar ≠ []) && riseB b.bar f.h.bs.length))
def packOK (f : Fair) : Bool := validH f.h && goodB f.h f.pk
def numsOK (f : Fair) : Bool := inR f.day 0 20 && (inR f.nb 0 4 && decide (f.q.length ≤ 8))
def validF (f : Fair) : Bool := packOK f && (numsOK f && f.q.all (bidOK f))
def ckF (f : Fair) : Int := if validF f then 0 else 90
theorem ckF_no {f : Fair} (h : validF f = false) : ckF f = 90 := by simp [ckF, h]
theorem ckF_yes {f : Fair} (h : validF f = true) : ckF f = 0 := by simp [ckF, h]
theorem bids_no {f : Fair} {k : Nat} {b : Bid} (h : f.q[k]? = some b) (hb : bidOK f b = false) : validF f = false := by
  have : f.q.all (bidOK f) = false := by rw [List.all_eq_false]; exact ⟨b, List.mem_of_getElem? h, by simp [hb]⟩
  simp [validF, this]
theorem bids_all {f : Fair} (h : ∀ k b, k < f.q.length → f.q[k]? = some b → bidOK f b = true) : f.q.all (bidOK f) = true := by
  rw [List.all_eq_true]
  intro b hb
  obtain ⟨k, hk⟩ := List.getElem?_of_mem hb
  exact h k b (List.getElem?_eq_some_iff.1 hk).1 hk
theorem swithin_any (n lo hi : Int) (w : World) : Calls Try.prog 110 #[.int .i64 n, .int .i64 lo, .int .i64 hi] w fun e w' => e = .returned (.bool (inR n lo hi)) ∧ w = w' := by
  cases h1 : decide (lo ≤ n)
  · have e1 : ¬ lo ≤ n := of_decide_eq_false h1
    have e2 : inR n lo hi = false := inR_false.2 (fun h => e1 h.1)
    rw [e2]
    go_enter Try.func110, Try.ntmps110
    go_wp2
    go_ret
    exact ⟨rfl, rfl⟩
  · have e1 : lo ≤ n := of_decide_eq_true h1
    cases h2 : decide (n ≤ hi)
    · have e3 : ¬ n ≤ hi := of_decide_eq_false h2
      have e2 : inR n lo hi = false := inR_false.2 (fun h => e3 h.2)
      rw [e2]
      go_enter Try.func110, Try.ntmps110
      go_wp2
      go_ret
      exact ⟨rfl, rfl⟩
    · have e3 : n ≤ hi := of_decide_eq_true h2
      have e2 : inR n lo hi = true := inR_true.2 ⟨e1, e3⟩
      rw [e2]
      go_enter Try.func110, Try.ntmps110
      go_wp2
      go_ret
      exact ⟨rfl, rfl⟩
example : (Try.prog.info? 189).map (·.size) = some 10 := by kernel_rfl
open Go.RowKit

/-! Check. -/
theorem good_no1 {f : Fair} (h : validH f.h = false) : goodRet f.h f.pk = (false, 80) := by simp [goodRet, h]
theorem good_is {f : Fair} (h : validH f.h = true) {x : Bool} (hg : goodB f.h f.pk = x) : goodRet f.h f.pk = (x, 0) := by simp [goodRet, h, hg]
theorem valid_no1 {f : Fair} (h : packOK f = false) : validF f = false := by simp [validF, h]
theorem valid_no2 {f : Fair} (h : numsOK f = false) : validF f = false := by simp [validF, h]
set_option maxRecDepth 100000 in
set_option maxHeartbeats 4000000 in
theorem scheck_any (F : FL) (f : Fair) (hn : FN f) (w : World) (hF : FairAt w w.heap.size F f) :
    Calls Try.prog 138 #[F.enc f] w fun e w' => e = .returned (.int .i64 (ckF f)) ∧ Below w.heap.size w w' := by
  have hbw := (Below.refl _ _).alloc (Nat.le_refl w.heap.size) (.cells #[.slice F.L.Ak f.h.ks.length F.L.ck, .int .i64 f.h.fl, .slice F.L.Ap f.h.ps.length F.L.cp, .slice F.L.Ab f.h.bs.length F.L.cb, .slice F.Ap f.pk.length F.cp, .int .i64 f.day, .int .i64 f.nb, .slice F.Aq f.q.length F.cq] 62)
  have HFA := Lib.hid (hF.below hbw)
  have HG := Lib.hid (Good_any F.L f.h hn.h f.pk hn.p F.Ap F.cp _ HFA.out.h HFA.out.p)
  have HB := Lib.hid (FBox.new w F f)
  have HBW := Lib.hid hbw
  have HN := Lib.hid hn
  have HF := Lib.hid hF
  clear hbw HFA hn hF
  cases hv : validH f.h
  · have h1 := HG.out
    rw [good_no1 hv] at h1
    have H1 := Lib.hid h1
    have hno : ckF f = 90 := ckF_no (valid_no1 (by simp [packOK, hv]))
    rw [hno]
    clear hv HG h1 hno
    go_enter Try.func138, Try.ntmps138
    go_wp2_with (go_at_call 181; refine H1.out.mono ?_; rintro e W1 ⟨rfl, hb1⟩; have HB1 := Lib.hid hb1; clear hb1)
    go_ret
    exact ⟨rfl, hb0to HBW.out HB1.out⟩
  cases hg : goodB f.h f.pk
  · have h1 := HG.out
    rw [good_is hv hg] at h1
    have H1 := Lib.hid h1
    have hno : ckF f = 90 := ckF_no (valid_no1 (by simp [packOK, hg]))
    rw [hno]
    clear hv HG h1 hno hg
    go_enter Try.func138, Try.ntmps138
    go_wp2_with (go_at_call 181; refine H1.out.mono ?_; rintro e W1 ⟨rfl, hb1⟩; have HB1 := Lib.hid hb1; clear hb1)
    go_ret
    exact ⟨rfl, hb0to HBW.out HB1.out⟩
  have h1 := HG.out
  rw [good_is hv hg] at h1
  have H1 := Lib.hid h1
  have HPK : Hid (packOK f = true) := Lib.hid (by simp [packOK, hv, hg])
  clear hv HG h1 hg
  cases h1 : inR f.day 0 20
  · have hno : ckF f = 90 := ckF_no (valid_no2 (by simp [numsOK, h1]))
    rw [hno]
    clear hno
    go_enter Try.func138, Try.ntmps138
    go_wp2_with (first
      | (go_at_call 181; refine H1.out.mono ?_; rintro e W1 ⟨rfl, hb1⟩; have HB1 := Lib.hid hb1; obtain ⟨g0, g1, g2, g3, g4, g5, g6, g7⟩ := (HB.out.below (by simpa using hb1)).cells; clear hb1 g0 g1 g2 g3 g4)
      | (go_at_call 110; refine (swithin_any _ _ _ _).mono ?_; rintro e w' ⟨rfl, rfl⟩))
    go_ret
    exact ⟨rfl, hb0to HBW.out HB1.out⟩
  cases h2 : inR f.nb 0 4
  · have hno : ckF f = 90 := ckF_no (valid_no2 (by simp [numsOK, h2]))
    rw [hno]
    clear hno
    go_enter Try.func138, Try.ntmps138
    go_wp2_with (first
      | (go_at_call 181; refine H1.out.mono ?_; rintro e W1 ⟨rfl, hb1⟩; have HB1 := Lib.hid hb1; obtain ⟨g0, g1, g2, g3, g4, g5, g6, g7⟩ := (HB.out.below (by simpa using hb1)).cells; clear hb1 g0 g1 g2 g3 g4)
      | (go_at_call 110; refine (swithin_any _ _ _ _).mono ?_; rintro e w' ⟨rfl, rfl⟩))
    go_ret
    exact ⟨rfl, hb0to HBW.out HB1.out⟩
  cases h3 : decide (f.q.length ≤ 8)
  · have h3' : ¬ f.q.length ≤ 8 := of_decide_eq_false h3
    have hno : ckF f = 90 := ckF_no (valid_no2 (by simp [numsOK, h3]))
    have HQ := Lib.hid HN.out.q
    rw [hno]
    have hq := HQ.out
    clear hno h3
    go_enter Try.func138, Try.ntmps138
    go_wp2_with (first
      | (go_at_call 181; refine H1.out.mono ?_; rintro e W1 ⟨rfl, hb1⟩; have HB1 := Lib.hid hb1; obtain ⟨g0, g1, g2, g3, g4, g5, g6, g7⟩ := (HB.out.below (by simpa using hb1)).cells; clear hb1 g0 g1 g2 g3 g4)
      | (go_at_call 110; refine (swithin_any _ _ _ _).mono ?_; rintro e w' ⟨rfl, rfl⟩))
    go_ret
    exact ⟨rfl, hb0to HBW.out HB1.out⟩
  have h3' : f.q.length ≤ 8 := of_decide_eq_true h3
  have HNU : Hid (numsOK f = true) := Lib.hid (by simp [numsOK, h1, h2, h3'])
  clear h3
  obtain ⟨L, Ap, cp, Aq, cq⟩ := F
  go_enter Try.func138, Try.ntmps138
  go_wp2_with (first
      | (go_at_call 181; refine H1.out.mono ?_; rintro e W1 ⟨rfl, hb1⟩; have HB1 := Lib.hid hb1; obtain ⟨g0, g1, g2, g3, g4, g5, g6, g7⟩ := (HB.out.below (by simpa using hb1)).cells; clear hb1 g0 g1 g2 g3 g4)
      | (go_at_call 110; refine (swithin_any _ _ _ _).mono ?_; rintro e w' ⟨rfl, rfl⟩))
  clear g5 g6 g7 h1 h2
  go_loopw [42] (fun i wr => ∃ k : Nat, k ≤ f.q.length ∧ i = .int .i64 k ∧ Hid (∀ j b, j < k → f.q[j]? = some b → bidOK f b = true) ∧ Below w.heap.size w wr ∧ FBox wr w.heap.size ⟨L, Ap, cp, Aq, cq⟩ f) (fun i _ => f.q.length - (intOf i).toNat)
  case atStart => exact ⟨0, Nat.zero_le _, rfl, Lib.hid (fun j x hj => by omega), hb0to HBW.out HB1.out, HB.out.below HB1.out⟩
  case round =>
    obtain ⟨k, hk, rfl, hok, hb, hB⟩ := hrel
    have hsz := hb.size
    by_cases hlt : k < f.q.length
    · obtain ⟨x, hx⟩ : ∃ x, f.q[k]? = some x := ⟨_, List.getElem?_eq_getElem hlt⟩
      obtain ⟨bk, ok, A', c', rfl, hbk, d1, d2, d3, hA', hI⟩ := HF.out.q.at_ hx
      have e1 := below_cell hb d1
      have e2 := below_cell hb d2
      have e3 := below_cell hb d3
      obtain ⟨g0, g1, g2, g3, g4, g5, g6, g7⟩ := hB.cells
      have hlt0 : w.heap.size < wr.heap.size := hB.lt
      have hne0 : ¬ w.heap.size = wr.heap.size := by omega
      have hx4 := HN.out.b x (List.mem_of_getElem? hx)
      have HX := Lib.hid hx
      have HI := Lib.hid hI
      have HAA := Lib.hid hA'
      have HB2 := Lib.hid hB
      have HNB : Hid (inR f.nb 0 4 = true) := Lib.hid (by have := HNU.out; simp only [numsOK, Bool.and_eq_true] at this; exact this.2.1)
      have hnb : IntKind.i64.wrap (f.nb - 1) = f.nb - 1 := by
        have := inR_true.1 HNB.out
        exact IntWalk.i64_in _ (by omega)
      clear hx hI hA' d1 d2 d3 g0 g1 g2 g4 g5 g7 hB
      cases h1 : inR x.who 0 (f.nb - 1)
      · have hno : Hid (bidOK f x = false) := Lib.hid (by simp [bidOK, h1])
        clear g3
        go_wp2_with (go_at_call 110; refine (swithin_any _ _ _ _).mono ?_; rintro e w' ⟨rfl, rfl⟩)
        go_ret
        exact ⟨by rw [ckF_no (bids_no HX.out hno.out)]; rfl, hb.alloc hsz _⟩
      cases h2 : inR x.pay 0 99
      · have hno : Hid (bidOK f x = false) := Lib.hid (by simp [bidOK, h2])
        clear g3
        go_wp2_with (go_at_call 110; refine (swithin_any _ _ _ _).mono ?_; rintro e w' ⟨rfl, rfl⟩)
        go_ret
        exact ⟨by rw [ckF_no (bids_no HX.out hno.out)]; rfl, hb.alloc hsz _⟩
      by_cases h3 : x.bar.length = 0
      · have hno : Hid (bidOK f x = false) := Lib.hid (by simp [bidOK, List.length_eq_zero_iff.1 h3])
        have h3' : ((x.bar.length : Int) == 0) = true := by simpa using h3
        clear g3
        go_wp2_with (go_at_call 110; refine (swithin_any _ _ _ _).mono ?_; rintro e w' ⟨rfl, rfl⟩)
        go_ret
        exact ⟨by rw [ckF_no (bids_no HX.out hno.out)]; rfl, hb.alloc hsz _⟩
      have h3' : ((x.bar.length : Int) == 0) = false := by simpa using h3
      have HP : Hid (inR x.who 0 (f.nb - 1) = true ∧ inR x.pay 0 99 = true ∧ x.bar ≠ []) := Lib.hid ⟨h1, h2, fun e => h3 (by rw [e]; rfl)⟩
      go_wp2_with (go_at_call 110; refine (swithin_any _ _ _ _).mono ?_; rintro e w' ⟨rfl, rfl⟩)
      clear h1 h2 h3' g3 g6
      have h4 : 0 < x.bar.length := by omega
      clear h3
      obtain ⟨wo, rfl⟩ : ∃ wo : World, wo = wr := ⟨_, rfl⟩
      have hbo := hb.alloc hsz (.cells #[.int .i64 x.who, .slice A' x.bar.length c', .int .i64 x.pay] 68)
      have hBo := HB2.out.of (Below.heap_alloc wo (.cells #[.int .i64 x.who, .slice A' x.bar.length c', .int .i64 x.pay] 68) _ HB2.out.lt)
      have HBO := Lib.hid hbo
      have HBBO := Lib.hid hBo
      clear hbo hBo
      go_loopw [68] (fun i wr => ∃ j : Nat, j ≤ x.bar.length ∧ i = .int .i64 j ∧ Hid (∀ m, m < j → riseOK x.bar f.h.bs.length m = true) ∧ Below w.heap.size w wr ∧ Below wo.heap.size wo wr ∧ FBox wr w.heap.size ⟨L, Ap, cp, some ⟨bk, ok, none⟩, cq⟩ f ∧ BBox wr wo.heap.size A' c' x) (fun i _ => x.bar.length - (intOf i).toNat)
      case atStart => exact ⟨0, Nat.zero_le _, rfl, Lib.hid (fun j hj => by omega), HBO.out, (Below.refl _ _).alloc (Nat.le_refl _) _, HBBO.out, BBox.new wo A' c' x⟩
      case round =>
        obtain ⟨j, hj, rfl, hrise, hb2, hb3, hB3, hX3⟩ := hrel
        have hsz2 := hb2.size
        have hsz3 := hb3.size
        have hbs := HN.out.h.2.2
        by_cases hjl : j < x.bar.length
        · obtain ⟨y, hy⟩ : ∃ y, x.bar[j]? = some y := ⟨_, List.getElem?_eq_getElem hjl⟩
          have hgy : x.bar.getD j 0 = y := by simp [List.getD, hy]
          obtain ⟨b1, o1, rfl, b1lt, c1⟩ := HI.out.at_ hy
          have u1 := below_cell hb2 c1
          obtain ⟨g0, g1, g2, g3, g4, g5, g6, g7⟩ := hB3.cells
          obtain ⟨k0, k1, k2⟩ := hX3.cells
          have hlt1 : w.heap.size < wr.heap.size := hB3.lt
          have hlt2 : wo.heap.size < wr.heap.size := hX3.lt
          clear g0 g1 g2 g4 g5 g6 g7 k0 k2 c1
          cases hr : inR y 0 ((f.h.bs.length : Int) - 1)
          · have hno : Hid (riseOK x.bar f.h.bs.length j = false) := Lib.hid (by rw [riseOK, hgy, hr]; rfl)
            have hbn : Hid (bidOK f x = false) := Lib.hid (by simp [bidOK, riseB_no hjl hno.out])
            clear hy hgy k1
            go_wp2_with (go_at_call 110; refine (swithin_any _ _ _ _).mono ?_; rintro e w' ⟨rfl, rfl⟩)
            go_ret
            exact ⟨by rw [ckF_no (bids_no HX.out hbn.out)]; rfl, hb2⟩
          rcases Nat.eq_zero_or_pos j with rfl | hj0
          · have hyes : Hid (riseOK x.bar f.h.bs.length 0 = true) := Lib.hid (by rw [riseOK, hgy, hr]; rfl)
            simp only [Nat.add_zero] at u1
            clear hy hgy k1
            go_wp2_with (go_at_call 110; refine (swithin_any _ _ _ _).mono ?_; rintro e w' ⟨rfl, rfl⟩)
            go_roundw
            case rel => exact ⟨1, by omega, by go_num, Lib.hid (fun j hj => by obtain rfl : j = 0 := (by omega); exact hyes.out), hb2, hb3, hB3, hX3⟩
            case measure => simp [intOf]; omega
          · obtain ⟨z, hz⟩ : ∃ z, x.bar[j - 1]? = some z := ⟨_, List.getElem?_eq_getElem (by omega)⟩
            have hgz : x.bar.getD (j - 1) 0 = z := by simp [List.getD, hz]
            obtain ⟨b1', o1', e', _, c2⟩ := HI.out.at_ hz
            cases e'
            have hd0 : decide (0 < j) = true := by simp; omega
            have ht3 : (1 : Int) ≤ (j : Int) := by omega
            have ht2 : (0 : Int) ≤ (j : Int) - 1 := by omega
            have ht4 : (j : Int) - 1 < x.bar.length := by omega
            have ec : IntKind.i64.wrap ((j : Int) - 1) = ((j - 1 : Nat) : Int) := by rw [IntWalk.i64_in _ (by omega)]; omega
            have u2 := below_cell hb2 c2
            have hk1 : ((j - 1 : Nat) : Int) < x.bar.length := by omega
            have hk2 : j - 1 < x.bar.length := by omega
            clear c2
            by_cases hyz : y ≤ z
            · have hdx : decide (y ≤ z) = true := by simpa using hyz
              have hno : Hid (riseOK x.bar f.h.bs.length j = false) := Lib.hid (by rw [riseOK, hgy, hgz, hr]; simp; omega)
              have hbn : Hid (bidOK f x = false) := Lib.hid (by simp [bidOK, riseB_no hjl hno.out])
              clear hy hgy hz hgz
              go_wp2_with (go_at_call 110; refine (swithin_any _ _ _ _).mono ?_; rintro e w' ⟨rfl, rfl⟩)
              go_ret
              exact ⟨by rw [ckF_no (bids_no HX.out hbn.out)]; rfl, hb2⟩
            · have hdx : decide (y ≤ z) = false := by simpa using hyz
              have hyes : Hid (riseOK x.bar f.h.bs.length j = true) := Lib.hid (by rw [riseOK, hgy, hgz, hr]; simp; omega)
              clear hy hgy hz hgz
              go_wp2_with (go_at_call 110; refine (swithin_any _ _ _ _).mono ?_; rintro e w' ⟨rfl, rfl⟩)
              go_roundw
              case rel => exact ⟨j + 1, by omega, by go_num, Lib.hid (fun m hm => by by_cases e : m = j; exact e ▸ hyes.out; exact hrise.out m (by omega)), hb2, hb3, hB3, hX3⟩
              case measure => simp [intOf]; omega
        · obtain rfl : j = x.bar.length := by omega
          have hbk : Hid (bidOK f x = true) := Lib.hid (by
            obtain ⟨q1, q2, q3⟩ := HP.out
            simp [bidOK, q1, q2, q3, riseB_yes hrise.out])
          clear hrise hjl hj hbs
          go_wp2
          go_roundw
          case rel => exact ⟨k + 1, by omega, by go_num, Lib.hid (fun m b hm hb' => by
            by_cases e : m = k
            · subst e
              have := HX.out.symm.trans hb'
              cases this
              exact hbk.out
            · exact hok.out m b (by omega) hb'), hb2, hB3⟩
          case measure => simp [intOf]; omega
    · obtain rfl : k = f.q.length := by omega
      have hall : Hid (f.q.all (bidOK f) = true) := Lib.hid (bids_all hok.out)
      clear hok hlt hk
      go_wp2
      go_ret
      exact ⟨by rw [ckF_yes (by rw [validF, HPK.out, HNU.out, hall.out]; rfl)]; rfl, hb⟩
end Go.Proofs.Ytmbcpmnigggbaaa
namespace Go.Proofs.Ytmbcpmnigggbaaa
open Go.RowKit

/-! Sets as bits. -/
theorem has_bit : ∀ m : Nat, m < 256 → ∀ i : Nat, i < 9 → (bits BinOp.and IntKind.i64 ((m : Int) / 2 ^ i) 1 == 1) = m.testBit i := by decide +kernel
theorem or_bits : ∀ m : Nat, m < 16 → ∀ i : Nat, i < 16 → bits BinOp.or IntKind.i64 (m : Int) (i : Int) = ((m ||| i : Nat) : Int) := by decide +kernel
theorem and_bits : ∀ m : Nat, m < 16 → ∀ i : Nat, i < 16 → bits BinOp.and IntKind.i64 (m : Int) (i : Int) = ((m &&& i : Nat) : Int) := by decide +kernel
theorem andnot_bits : ∀ m : Nat, m < 16 → ∀ i : Nat, i < 16 → bits BinOp.andNot IntKind.i64 (m : Int) (i : Int) = ((m &&& (15 - i) : Nat) : Int) := by decide +kernel
theorem has_end : ∀ m : Nat, m < 256 → ∀ i : Nat, i < 9 → ((m : Int) / 2 ^ i ≤ 0) → ∀ j : Nat, j < 8 → i ≤ j → m.testBit j = false := by decide +kernel
theorem has_more : ∀ m : Nat, m < 256 → ∀ i : Nat, i < 9 → (0 < (m : Int) / 2 ^ i) → i < 8 := by decide +kernel
set_option maxRecDepth 100000 in
theorem has_any (m i : Nat) (hm : m < 256) (hi : i < 9) (w : World) :
    Calls Try.prog 143 #[.int .i64 (m : Int), .int .i64 (i : Int)] w fun e w' => e = .returned (.bool (m.testBit i)) ∧ w = w' := by
  have h0 := has_bit m hm i hi
  go_enter Try.func143, Try.ntmps143
  go_wp2
  go_ret
  exact ⟨rfl, rfl⟩
/-- The numbers of a set. -/
def intsN (l : List Nat) : List Int := l.map fun i : Nat => (i : Int)
theorem intsN_app (l m : List Nat) : intsN (l ++ m) = intsN l ++ intsN m := by simp [intsN]
theorem intsN_len (l : List Nat) : (intsN l).length = l.length := by simp [intsN]
theorem intsN_at {l : List Nat} {k i : Nat} (h : l[k]? = some i) : (intsN l)[k]? = some (i : Int) := by simp [intsN, h]
theorem bits_end {m k : Nat} (h : ∀ j, j < 8 → k ≤ j → m.testBit j = false) (hk : k ≤ 8) : bitsL k m = bitsL 8 m := by
  have : ∀ d, k + d ≤ 8 → bitsL (k + d) m = bitsL k m := fun d => by
    induction d with
    | zero => intro _; rfl
    | succ d ih =>
      intro hd
      rw [show k + (d + 1) = (k + d) + 1 by omega, bits_succ, ih (by omega), h (k + d) (by omega) (by omega)]
      simp
  have := this (8 - k) (by omega)
  rw [show k + (8 - k) = 8 by omega] at this
  exact this.symm
set_option maxRecDepth 100000 in
set_option maxHeartbeats 4000000 in
theorem list_any (m : Nat) (hm : m < 256) (w : World) :
    Calls Try.prog 93 #[.int .i64 (m : Int)] w fun e w' => RowRet (intsN (bitsL 8 m)) w.heap.size w' e ∧ Below w.heap.size w w' := by
  go_enter Try.func93, Try.ntmps93
  go_wp2
  go_loopw [3, 4] (fun s i wr => ∃ k : Nat, k ≤ 8 ∧ i = .int .i64 k ∧ Ints wr w.heap.size s (intsN (bitsL k m)) ∧ Below w.heap.size w wr) (fun _ i _ => 9 - (intOf i).toNat)
  case atStart => exact ⟨0, by omega, rfl, by simpa [bitsL, intsN] using ints_nil w w.heap.size, Below.refl _ _⟩
  case round =>
    obtain ⟨k, hk, rfl, hown, hb⟩ := hrel
    have hsz := hb.size
    have hlen := bits_len k m
    rw [← intsN_len] at hlen
    by_cases hlt : 0 < (m : Int) / 2 ^ k
    · have hk8 := has_more m hm k (by omega) hlt
      have hd1 : decide (0 < (m : Int) / 2 ^ k) = true := by simpa using hlt
      cases hbit : m.testBit k
      · have HY : Hid (bitsL (k + 1) m = bitsL k m) := Lib.hid (by rw [bits_succ, hbit]; simp)
        clear hlt
        go_wp2_with (go_at_call 143; refine (has_any m k hm (by omega) _).mono ?_; rintro e w' ⟨rfl, rfl⟩)
        go_roundw
        case rel => exact ⟨k + 1, by omega, by go_num, by rw [HY.out]; exact hown, hb⟩
        case measure => simp [intOf]; omega
      · have HY : Hid (intsN (bitsL (k + 1) m) = intsN (bitsL k m) ++ [(k : Int)]) := Lib.hid (by rw [bits_succ, hbit, if_pos rfl, intsN_app]; rfl)
        clear hlt
        go_wp2_with (first
          | (refine wpl_app rfl (.tmp 14) (.tmp 16) rfl w.heap.size w.heap.size _ (intsN (bitsL k m)) k rfl (hown.alloc _) ⟨wr.heap.size, 0, none⟩ 1 rfl (by simp [go_sem]) (by omega) (by simp; omega) (Nat.le_refl _) ?_; intro v' w' hown' hb')
          | (go_at_call 143; refine (has_any m k hm (by omega) _).mono ?_; rintro e w' ⟨rfl, rfl⟩))
        go_roundw
        case rel => exact ⟨k + 1, by omega, by go_num, by rw [HY.out]; exact hown', hb.trans (((Below.refl _ _).alloc hsz _).trans hb')⟩
        case measure => simp [intOf]; omega
    · have hd1 : decide (0 < (m : Int) / 2 ^ k) = false := by simpa using hlt
      have HE := Lib.hid (bits_end (has_end m hm k (by omega) (by omega)) hk)
      clear hlt
      go_wp2
      go_ret
      exact ⟨⟨_, rfl, by rw [← HE.out]; exact hown⟩, hb⟩
open Go.RowKit

/-! What is ready. -/
def dOK (h : House) (pack : List Int) (day : Int) (b : Int) : Bool := decide ((caskOf (packedC h pack) b.toNat).d ≤ day)
theorem one_shl : ∀ i : Nat, i < 8 → wrap64 (2 ^ i) = ((1 <<< i : Nat) : Int) := by decide +kernel
theorem shl_lt : ∀ i : Nat, i < 4 → 1 <<< i < 16 := by decide +kernel
set_option maxRecDepth 100000 in
set_option maxHeartbeats 4000000 in
theorem ready_any (F : FL) (f : Fair) (hn : FN f) (hv : validH f.h = true) (pack : List Int) (hg : goodB f.h pack = true) (A : Option Addr) (c : Nat) (day : Int) (w : World) (hF : FairAt w w.heap.size F f) (hP : IntsAt w w.heap.size A pack) :
    Calls Try.prog 139 #[F.enc f, .slice A pack.length c, .int .i64 day] w fun e w' => (∃ u : Nat, e = .returned (.int .i64 u) ∧ MaskOf (pack.filter (dOK f.h pack day)) u) ∧ Below w.heap.size w w' := by
  have hpl := (goodB_parts hg).1
  have hpr := (goodB_parts hg).2.1
  have hb4 := (HOK.ofValid hv).bl
  have hps := (HOK.ofValid hv).pl
  have HRG := Lib.hid hpr
  have HV := Lib.hid hv
  have HG := Lib.hid hg
  have HN := Lib.hid hn
  have HF := Lib.hid hF
  have HP := Lib.hid hP
  have HB := Lib.hid (FBox.new w F f)
  have hp6 : pack.length ≤ 6 := by omega
  clear hn hF hP hpl hpr hv hg hps
  obtain ⟨L, Ap, cp, Aq, cq⟩ := F
  go_enter Try.func139, Try.ntmps139
  go_wp2
  go_loopw [6, 15] (fun s i wr => ∃ k : Nat, k ≤ pack.length ∧ i = .int .i64 k ∧ (∃ u : Nat, s = .int .i64 u ∧ MaskOf ((pack.take k).filter (dOK f.h pack day)) u) ∧ Below w.heap.size w wr ∧ FBox wr w.heap.size ⟨L, Ap, cp, Aq, cq⟩ f) (fun _ i _ => pack.length - (intOf i).toNat)
  case atStart => exact ⟨0, Nat.zero_le _, rfl, ⟨0, rfl, MaskOf.nil⟩, (Below.refl _ _).alloc (Nat.le_refl _) _, HB.out⟩
  case round =>
    obtain ⟨k, hk, rfl, ⟨u, rfl, hu⟩, hb, hB⟩ := hrel
    have hsz := hb.size
    by_cases hlt : k < pack.length
    · obtain ⟨x, hx⟩ : ∃ x, pack[k]? = some x := ⟨_, List.getElem?_eq_getElem hlt⟩
      obtain ⟨b1, o1, eA, b1lt, d1⟩ := HP.out.at_ hx
      subst eA
      have e1 := below_cell hb d1
      have hxr := HRG.out x (List.mem_of_getElem? hx)
      obtain ⟨xn, rfl⟩ := Int.eq_ofNat_of_zero_le hxr.1
      have hxn : xn < 4 := by omega
      obtain ⟨g0, g1, g2, g3, g4, g5, g6, g7⟩ := hB.cells
      have hlt0 : w.heap.size < wr.heap.size := hB.lt
      have hFW := HF.out.below hb
      have h1 := barrel_any L f.h HN.out.h pack (by omega) xn (some ⟨b1, o1, none⟩) c wr (hFW.h) (HP.out.keep hsz fun _ _ hlt => hb.cell (p := ⟨_, _, none⟩) hlt)
      have hbr : barrelRet f.h pack xn = ((caskOf (packedC f.h pack) xn).p, saltC f.h.fl (caskOf (packedC f.h pack) xn), (caskOf (packedC f.h pack) xn).d, 0) := by
        rw [barrelRet, if_neg (by simp [HV.out]), if_neg (by simp [HG.out, inR]; omega)]; rfl
      rw [hbr] at h1
      have H1 := Lib.hid h1
      have HXX := Lib.hid hx
      have HBR := Lib.hid hB
      have ht : Hid (pack.take (k + 1) = pack.take k ++ [(xn : Int)]) := Lib.hid (take_snoc_next hx).symm
      have HSH := Lib.hid (one_shl xn (by omega))
      have HOR := Lib.hid (or_bits u hu.lt (1 <<< xn) (shl_lt xn hxn))
      have HU := Lib.hid hu
      clear hx d1 hxr h1 hbr hFW g4 g5 g6 g7 hB hu
      cases hd : decide ((caskOf (packedC f.h pack) xn).d ≤ day)
      · have HNO : Hid (dOK f.h pack day xn = false) := Lib.hid (by simpa [dOK] using hd)
        go_wp2_with (go_at_call 182; refine H1.out.mono ?_; rintro e W1 ⟨rfl, hb1⟩; have HB1 := Lib.hid hb1; clear hb1)
        go_roundw
        case rel => exact ⟨k + 1, by omega, by go_num, ⟨u, rfl, by rw [ht.out, List.filter_append, List.filter_cons_of_neg (by simp [HNO.out])]; simpa using HU.out⟩, hb0to hb HB1.out, HBR.out.below HB1.out⟩
        case measure => simp [intOf]; omega
      · have HYES : Hid (dOK f.h pack day xn = true) := Lib.hid (by simpa [dOK] using hd)
        go_wp2_with (go_at_call 182; refine H1.out.mono ?_; rintro e W1 ⟨rfl, hb1⟩; have HB1 := Lib.hid hb1; clear hb1)
        go_roundw
        case rel => exact ⟨k + 1, by omega, by go_num, ⟨u ||| (1 <<< xn), congrArg _ (by rw [HSH.out, HOR.out]), by rw [ht.out, List.filter_append, List.filter_cons_of_pos HYES.out]; exact HU.out.snoc hxn⟩, hb0to hb HB1.out, HBR.out.below HB1.out⟩
        case measure => simp [intOf]; omega
    · obtain rfl : k = pack.length := by omega
      rw [List.take_length] at hu
      go_wp2
      go_ret
      exact ⟨⟨u, rfl, hu⟩, hb⟩
end Go.Proofs.Ytmbcpmnigggbaaa
namespace Go.Proofs.Ytmbcpmnigggbaaa
/-! Sales in plain words: what can be reckoned: sets, the most, the winners. -/
def saleB (q : List Bid) (rd : List Int) (l : List Nat) : Bool :=
  decide (l.Pairwise (· < ·)) && (l.all (fun i => match q[i]? with | some b => readyB rd b | none => false) &&
    l.all fun i => l.all fun j => decide (i = j) || match q[i]?, q[j]? with | some a, some b => apartB a b | _, _ => true)
theorem saleB_iff {q : List Bid} {rd : List Int} {l : List Nat} : saleB q rd l = true ↔ SaleL q rd l := by
  unfold saleB
  rw [Bool.and_eq_true, Bool.and_eq_true, decide_eq_true_eq, List.all_eq_true, List.all_eq_true]
  constructor
  · rintro ⟨h1, h2, h3⟩
    refine ⟨h1, fun i hi => ?_, fun i hi j hj hne a b ha hb => ?_⟩
    · have := h2 i hi
      cases hq : q[i]? with
      | none => rw [hq] at this; cases this
      | some b => rw [hq] at this; exact ⟨b, rfl, this⟩
    · have := List.all_eq_true.1 (h3 i hi) j hj
      rw [ha, hb, Bool.or_eq_true, decide_eq_true_eq] at this
      exact this.resolve_left hne
  · rintro ⟨h1, h2, h3⟩
    refine ⟨h1, fun i hi => ?_, fun i hi => ?_⟩
    · obtain ⟨b, hb, hr⟩ := h2 i hi
      rw [hb]; exact hr
    · rw [List.all_eq_true]
      intro j hj
      by_cases e : i = j
      · simp [e]
      · rw [Bool.or_eq_true]
        right
        cases hqi : q[i]? with
        | none => rfl
        | some a =>
          cases hqj : q[j]? with
          | none => rfl
          | some b => exact h3 i hi j hj e a b hqi hqj
theorem saleB_no {q : List Bid} {rd : List Int} {l : List Nat} (h : ¬ SaleL q rd l) : saleB q rd l = false := by
  rw [← Bool.not_eq_true, saleB_iff]; exact h
/-- What a set of bids brings; below 0: it is no sale. -/
def brV (q : List Bid) (rd : List Int) (l : List Nat) : Int := if saleB q rd l = true then bringsL q l else -1
theorem brV_yes {q : List Bid} {rd : List Int} {l : List Nat} (h : SaleL q rd l) : brV q rd l = bringsL q l := if_pos (saleB_iff.2 h)
theorem brV_no {q : List Bid} {rd : List Int} {l : List Nat} (h : ¬ SaleL q rd l) : brV q rd l = -1 := if_neg (by rw [saleB_iff]; exact h)
/-- All sets that are sales. -/
def setsTo (q : List Bid) (rd : List Int) (k : Nat) : List Nat := (List.range k).filter fun m => saleB q rd (bitsL q.length m)
def setsL (q : List Bid) (rd : List Int) : List Nat := setsTo q rd (2 ^ q.length)
theorem setsTo_succ (q : List Bid) (rd : List Int) (k : Nat) : setsTo q rd (k + 1) = setsTo q rd k ++ if saleB q rd (bitsL q.length k) = true then [k] else [] := by
  unfold setsTo
  rw [List.range_succ, List.filter_append]
  congr 1
  cases h : saleB q rd (bitsL q.length k) <;> simp [h]
theorem mem_setsTo {q : List Bid} {rd : List Int} {k m : Nat} : m ∈ setsTo q rd k ↔ m < k ∧ SaleL q rd (bitsL q.length m) := by
  unfold setsTo
  rw [List.mem_filter, List.mem_range, saleB_iff]
theorem setsTo_pre (q : List Bid) (rd : List Int) {k n : Nat} (h : k ≤ n) : setsTo q rd k <+: setsTo q rd n := by
  obtain ⟨d, rfl⟩ := Nat.exists_eq_add_of_le h
  clear h
  induction d with
  | zero => exact List.prefix_rfl
  | succ d ih =>
    rw [show k + (d + 1) = (k + d) + 1 by omega, setsTo_succ]
    exact ih.trans (List.prefix_append _ _)
theorem bits_small : ∀ n, n ≤ 8 → ∀ m, m < 2 ^ n → ∀ i, i < 8 → n ≤ i → m.testBit i = false := fun n _ m hm i _ hni =>
  Nat.testBit_lt_two_pow (Nat.lt_of_lt_of_le hm (Nat.pow_le_pow_right (by omega) hni))
theorem bits_eight {n m : Nat} (hn : n ≤ 8) (hm : m < 2 ^ n) : bitsL 8 m = bitsL n m := by
  have : ∀ d, n + d ≤ 8 → bitsL (n + d) m = bitsL n m := fun d => by
    induction d with
    | zero => intro _; rfl
    | succ d ih =>
      intro hd
      rw [show n + (d + 1) = (n + d) + 1 by omega, bits_succ, ih (by omega), bits_small n hn m hm (n + d) (by omega) (by omega)]
      simp
  have := this (8 - n) (by omega)
  rw [show n + (8 - n) = 8 by omega] at this
  exact this
theorem pow_eight {n : Nat} (hn : n ≤ 8) : 2 ^ n ≤ 256 := Nat.pow_le_pow_right (by omega) hn
/-- The most that some sets bring, of those that are meant. -/
def mostTo (q : List Bid) (p : Nat → Bool) (S : List Nat) : Int := S.foldl (fun n m => if p m = true then max n (bringsL q (bitsL q.length m)) else n) (-1)
theorem mostTo_snoc (q : List Bid) (p : Nat → Bool) (S : List Nat) (m : Nat) : mostTo q p (S ++ [m]) = if p m = true then max (mostTo q p S) (bringsL q (bitsL q.length m)) else mostTo q p S := by
  unfold mostTo; rw [List.foldl_append]; rfl
theorem mostTo_ge (q : List Bid) (p : Nat → Bool) (hq : ∀ b ∈ q, 0 ≤ b.pay) (S : List Nat) : (∀ m ∈ S, p m = true → bringsL q (bitsL q.length m) ≤ mostTo q p S) ∧ ((mostTo q p S = -1 ∧ ∀ m ∈ S, ¬ p m = true) ∨ ∃ m ∈ S, p m = true ∧ bringsL q (bitsL q.length m) = mostTo q p S) := by
  refine snoc_indN (P := fun S => (∀ m ∈ S, p m = true → bringsL q (bitsL q.length m) ≤ mostTo q p S) ∧ ((mostTo q p S = -1 ∧ ∀ m ∈ S, ¬ p m = true) ∨ ∃ m ∈ S, p m = true ∧ bringsL q (bitsL q.length m) = mostTo q p S)) ⟨fun m hm => by simp at hm, .inl ⟨rfl, fun m hm => by simp at hm⟩⟩ (fun S x ⟨h1, h2⟩ => ?_) S
  rw [mostTo_snoc]
  by_cases hx : p x = true
  · rw [if_pos hx]
    have h0 := brings_nonneg hq (bitsL q.length x)
    refine ⟨fun m hm hp => ?_, .inr ?_⟩
    · rcases List.mem_append.1 hm with hm | hm
      · have := h1 m hm hp; omega
      · rw [List.mem_singleton.1 hm]; omega
    · by_cases hle : bringsL q (bitsL q.length x) ≤ mostTo q p S
      · rcases h2 with ⟨e, _⟩ | ⟨m, k1, k2, k3⟩
        · omega
        · exact ⟨m, by simp [k1], k2, by omega⟩
      · exact ⟨x, by simp, hx, by omega⟩
  · rw [if_neg hx]
    refine ⟨fun m hm hp => ?_, ?_⟩
    · rcases List.mem_append.1 hm with hm | hm
      · exact h1 m hm hp
      · rw [List.mem_singleton.1 hm] at hp; exact absurd hp hx
    · rcases h2 with ⟨e, h3⟩ | ⟨m, k1, k2, k3⟩
      · refine .inl ⟨e, fun m hm => ?_⟩
        rcases List.mem_append.1 hm with hm | hm
        · exact h3 m hm
        · rw [List.mem_singleton.1 hm]; exact hx
      · exact .inr ⟨m, by simp [k1], k2, k3⟩
theorem most_of_sets {q : List Bid} {rd : List Int} {P : List Nat → Prop} {p : Nat → Bool} (hn : q.length ≤ 8) (hq : ∀ b ∈ q, 0 ≤ b.pay) (hP : ∀ m, m < 2 ^ q.length → (p m = true ↔ P (bitsL q.length m))) : MostIs q rd P (mostTo q p (setsL q rd)) := by
  have hset : ∀ l, SaleL q rd l → ∃ m, m ∈ setsL q rd ∧ m < 2 ^ q.length ∧ bitsL q.length m = l := fun l hl => by
    obtain ⟨m, h1, rfl⟩ := bits_all q.length hn l hl.up fun i hi => hl.lt hi
    exact ⟨m, mem_setsTo.2 ⟨h1, hl⟩, h1, rfl⟩
  obtain ⟨h1, h2⟩ := mostTo_ge q p hq (setsL q rd)
  refine ⟨fun l hl hp => ?_, ?_⟩
  · obtain ⟨m, k1, k2, rfl⟩ := hset l hl
    exact h1 m k1 ((hP m k2).2 hp)
  · rcases h2 with ⟨e, h3⟩ | ⟨m, k1, k2, k3⟩
    · refine .inl ⟨e, fun l hl hp => ?_⟩
      obtain ⟨m, k1, k2, rfl⟩ := hset l hl
      exact h3 m k1 ((hP m k2).2 hp)
    · have k4 := mem_setsTo.1 k1
      exact .inr ⟨_, k4.2, (hP m k4.1).1 k2, k3⟩
/-- The winners' loop: the first best set, and what it brings. -/
instance aheadDec (p b : List Nat) : Decidable (aheadP p b) := inferInstanceAs (Decidable (p.length < b.length ∨ (p.length = b.length ∧ earlierN p b = true)))
def winStep (q : List Bid) (st : Nat × Int) (m : Nat) : Nat × Int :=
  if st.2 < bringsL q (bitsL q.length m) ∨ (bringsL q (bitsL q.length m) = st.2 ∧ aheadP (bitsL q.length m) (bitsL q.length st.1)) then (m, bringsL q (bitsL q.length m)) else st
def winTo (q : List Bid) (S : List Nat) : Nat × Int := S.foldl (winStep q) (0, -1)
theorem winTo_snoc (q : List Bid) (S : List Nat) (m : Nat) : winTo q (S ++ [m]) = winStep q (winTo q S) m := by
  unfold winTo; rw [List.foldl_append]; rfl
theorem winTo_ge (q : List Bid) (hq : ∀ b ∈ q, 0 ≤ b.pay) (S : List Nat) : (S = [] ∧ winTo q S = (0, -1)) ∨ ((winTo q S).1 ∈ S ∧ (winTo q S).2 = bringsL q (bitsL q.length (winTo q S).1) ∧ ∀ m ∈ S, bringsL q (bitsL q.length m) ≤ (winTo q S).2 ∧ (bringsL q (bitsL q.length m) = (winTo q S).2 → ¬ aheadP (bitsL q.length m) (bitsL q.length (winTo q S).1))) := by
  refine snoc_indN (P := fun S => (S = [] ∧ winTo q S = (0, -1)) ∨ ((winTo q S).1 ∈ S ∧ (winTo q S).2 = bringsL q (bitsL q.length (winTo q S).1) ∧ ∀ m ∈ S, bringsL q (bitsL q.length m) ≤ (winTo q S).2 ∧ (bringsL q (bitsL q.length m) = (winTo q S).2 → ¬ aheadP (bitsL q.length m) (bitsL q.length (winTo q S).1)))) (.inl ⟨rfl, rfl⟩) (fun S x h => .inr ?_) S
  rw [winTo_snoc]
  have h0 := brings_nonneg hq (bitsL q.length x)
  generalize winTo q S = st at h
  obtain ⟨b, n⟩ := st
  unfold winStep
  rcases h with ⟨rfl, e⟩ | ⟨h1, h2, h3⟩
  · cases e
    rw [if_pos (.inl (by show (-1 : Int) < _; omega))]
    exact ⟨by simp, rfl, fun m hm => by
      rw [List.nil_append, List.mem_singleton] at hm
      subst hm
      exact ⟨Int.le_refl _, fun _ => ahead_irr _⟩⟩
  · simp only at h1 h2 h3 ⊢
    by_cases hc : n < bringsL q (bitsL q.length x) ∨ (bringsL q (bitsL q.length x) = n ∧ aheadP (bitsL q.length x) (bitsL q.length b))
    · rw [if_pos hc]
      refine ⟨by simp, rfl, fun m hm => ?_⟩
      simp only
      rcases List.mem_append.1 hm with hm | hm
      · obtain ⟨k1, k2⟩ := h3 m hm
        rcases hc with hc | ⟨hc, ha⟩
        · exact ⟨by omega, fun e => by omega⟩
        · exact ⟨by omega, fun e hm2 => k2 (by omega) (ahead_trans hm2 ha)⟩
      · rw [List.mem_singleton.1 hm]
        exact ⟨Int.le_refl _, fun _ => ahead_irr _⟩
    · rw [if_neg hc]
      refine ⟨by simp [h1], h2, fun m hm => ?_⟩
      simp only
      rcases List.mem_append.1 hm with hm | hm
      · exact h3 m hm
      · rw [List.mem_singleton.1 hm]
        exact ⟨by
          apply Int.not_lt.1
          exact fun hh => hc (.inl hh), fun e ha => hc (.inr ⟨e, ha⟩)⟩
def winS (q : List Bid) (rd : List Int) : Nat := (winTo q (setsL q rd)).1
/-- The winners. -/
def winL (q : List Bid) (rd : List Int) : List Nat := bitsL q.length (winS q rd)
theorem win_of_sets {q : List Bid} {rd : List Int} (hn : q.length ≤ 8) (hq : ∀ b ∈ q, 0 ≤ b.pay) : winS q rd < 2 ^ q.length ∧ WinIs q rd (winL q rd) := by
  have h0 : 0 ∈ setsL q rd := mem_setsTo.2 ⟨Nat.pow_pos (by omega), by rw [bits_zero]; exact SaleL.nil q rd⟩
  rcases winTo_ge q hq (setsL q rd) with ⟨e, _⟩ | ⟨h1, h2, h3⟩
  · rw [e] at h0; simp at h0
  · obtain ⟨k1, k2⟩ := mem_setsTo.1 h1
    refine ⟨k1, k2, fun l hl => ?_, fun l hl he => ?_⟩
    · obtain ⟨m, j1, rfl⟩ := bits_all q.length hn l hl.up fun i hi => hl.lt hi
      have := (h3 m (mem_setsTo.2 ⟨j1, hl⟩)).1
      unfold winL winS
      rw [← h2]; exact this
    · obtain ⟨m, j1, rfl⟩ := bits_all q.length hn l hl.up fun i hi => hl.lt hi
      exact (h3 m (mem_setsTo.2 ⟨j1, hl⟩)).2 (by unfold winL winS at he; rw [h2]; exact he)
def allM (_ : Nat) : Bool := true
/-- What the best sales bring. -/
def mostV (q : List Bid) (rd : List Int) : Int := mostTo q allM (setsL q rd)
theorem mostV_is {q : List Bid} {rd : List Int} (hn : q.length ≤ 8) (hq : ∀ b ∈ q, 0 ≤ b.pay) : MostIs q rd (fun _ => True) (mostV q rd) := most_of_sets hn hq fun _ _ => ⟨fun _ => trivial, fun _ => rfl⟩
theorem mostV_win {q : List Bid} {rd : List Int} (hn : q.length ≤ 8) (hq : ∀ b ∈ q, 0 ≤ b.pay) : mostV q rd = bringsL q (winL q rd) := (mostV_is hn hq).unique (win_of_sets hn hq).2.most
/-- The most without a buyer. -/
def noneM (q : List Bid) (v : Int) (m : Nat) : Bool := !(bitsL 8 m).any (ownP q v)
def noneV (q : List Bid) (rd : List Int) (v : Int) : Int := mostTo q (noneM q v) (setsL q rd)
theorem noneV_is {q : List Bid} {rd : List Int} {v : Int} (hn : q.length ≤ 8) (hq : ∀ b ∈ q, 0 ≤ b.pay) : MostIs q rd (NoneOf q v) (noneV q rd v) := most_of_sets hn hq fun m hm => by
  unfold noneM NoneOf
  rw [bits_eight hn hm, Bool.not_eq_true', ← Bool.not_eq_true, List.any_eq_true]
  exact ⟨fun h i hi ho => h ⟨i, hi, ho⟩, fun h ⟨i, hi, ho⟩ => h i hi ho⟩
/-- What a buyer pays. -/
def payV (q : List Bid) (rd : List Int) (v : Int) : Int := if (winL q rd).any (ownP q v) = true then noneV q rd v - othersL q v (winL q rd) else 0
theorem payV_eq {q : List Bid} {rd : List Int} (hn : q.length ≤ 8) (hq : ∀ b ∈ q, 0 ≤ b.pay) (v : Int) : payV q rd v = noneV q rd v - othersL q v (winL q rd) := by
  unfold payV
  split
  · rfl
  · rename_i h
    rw [pays_none (win_of_sets hn hq).2 (noneV_is hn hq) fun i hi ho => h (List.any_eq_true.2 ⟨i, hi, ho⟩)]
/-- What the first n buyers pay together. -/
def paidTo (q : List Bid) (rd : List Int) : Nat → Int
  | 0 => 0
  | n + 1 => paidTo q rd n + payV q rd n
theorem payV_bd {q : List Bid} {rd : List Int} (hn : q.length ≤ 8) (hq : ∀ b ∈ q, 0 ≤ b.pay) (v : Int) : 0 ≤ payV q rd v ∧ payV q rd v ≤ ownL q v (winL q rd) := by
  have := pays_bd (win_of_sets (rd := rd) hn hq).2 (noneV_is (rd := rd) (v := v) hn hq)
  rw [payV_eq hn hq]
  omega
theorem paidTo_bd {q : List Bid} {rd : List Int} (hn : q.length ≤ 8) (hq : ∀ b ∈ q, 0 ≤ b.pay) : ∀ n, 0 ≤ paidTo q rd n ∧ paidTo q rd n ≤ ownTo q (winL q rd) n
  | 0 => ⟨Int.le_refl _, Int.le_refl _⟩
  | n + 1 => by
    have h1 := paidTo_bd hn hq (rd := rd) n
    have h2 := payV_bd hn hq (rd := rd) (n : Int)
    rw [ownTo_succ]
    unfold paidTo
    omega

/-! When. -/
/-- The first of the days 0 to 20 on which g is what it is on the day 20. -/
structure WhenIs (g : Nat → Int) (d : Nat) : Prop where
  le : d ≤ 20
  at_ : g 20 ≤ g d
  first : ∀ e, e < d → g e < g 20
theorem WhenIs.unique {g : Nat → Int} {d e : Nat} (h : WhenIs g d) (k : WhenIs g e) : d = e := by
  rcases Nat.lt_trichotomy d e with x | x | x
  · have := k.first d x; have := h.at_; omega
  · exact x
  · have := h.first e x; have := k.at_; omega
end Go.Proofs.Ytmbcpmnigggbaaa
