namespace Go.Proofs.Ytmconopnplgcfaa

/-! Sales in plain words: bids, sales, what they bring, the best ones, the winners. -/
structure Bid where
  who : Int
  bar : List Int
  pay : Int
/-- Two bids can be in one sale. -/
def apartB (a b : Bid) : Bool := decide (a.who ≠ b.who) && a.bar.all fun n => decide (n ∉ b.bar)
theorem apart_iff {a b : Bid} : apartB a b = true ↔ a.who ≠ b.who ∧ ∀ n ∈ a.bar, n ∉ b.bar := by
  unfold apartB
  rw [Bool.and_eq_true, decide_eq_true_eq, List.all_eq_true]
  exact and_congr Iff.rfl ⟨fun h n hn => of_decide_eq_true (h n hn), fun h n hn => decide_eq_true (h n hn)⟩
theorem apart_symm {a b : Bid} (h : apartB a b = true) : apartB b a = true := by
  rw [apart_iff] at h ⊢
  exact ⟨fun e => h.1 e.symm, fun n hn hm => h.2 n hm hn⟩
def readyB (rd : List Int) (b : Bid) : Bool := b.bar.all fun n => decide (n ∈ rd)
theorem ready_iff {rd : List Int} {b : Bid} : readyB rd b = true ↔ ∀ n ∈ b.bar, n ∈ rd := by
  unfold readyB
  rw [List.all_eq_true]
  exact ⟨fun h n hn => of_decide_eq_true (h n hn), fun h n hn => decide_eq_true (h n hn)⟩
/-- A sale: bids, strictly ascending, all of whose barrels are ready, each two of which can be in one sale. -/
structure SaleL (q : List Bid) (rd : List Int) (l : List Nat) : Prop where
  up : l.Pairwise (· < ·)
  rdy : ∀ i ∈ l, ∃ b, q[i]? = some b ∧ readyB rd b = true
  ap : ∀ i ∈ l, ∀ j ∈ l, i ≠ j → ∀ a b, q[i]? = some a → q[j]? = some b → apartB a b = true
theorem SaleL.nil (q : List Bid) (rd : List Int) : SaleL q rd [] := ⟨.nil, fun _ h => by simp at h, fun _ h => by simp at h⟩
theorem SaleL.nodup {q : List Bid} {rd : List Int} {l : List Nat} (h : SaleL q rd l) : l.Nodup := h.up.imp fun hab e => by omega
theorem SaleL.lt {q : List Bid} {rd : List Int} {l : List Nat} (h : SaleL q rd l) {i : Nat} (hi : i ∈ l) : i < q.length := by
  obtain ⟨b, hb, _⟩ := h.rdy i hi
  exact (List.getElem?_eq_some_iff.1 hb).1
/-- Some of a sale's bids are a sale. -/
theorem SaleL.sub {q : List Bid} {rd : List Int} {l : List Nat} (h : SaleL q rd l) (p : Nat → Bool) : SaleL q rd (l.filter p) :=
  ⟨h.up.filter _, fun i hi => h.rdy i (List.mem_filter.1 hi).1, fun i hi j hj => h.ap i (List.mem_filter.1 hi).1 j (List.mem_filter.1 hj).1⟩
/-- A buyer has one bid of a sale at most. -/
theorem SaleL.one {q : List Bid} {rd : List Int} {l : List Nat} (h : SaleL q rd l) {i j : Nat} {a b : Bid} (hi : i ∈ l) (hj : j ∈ l) (ha : q[i]? = some a) (hb : q[j]? = some b) (hw : a.who = b.who) : i = j := by
  by_cases e : i = j
  · exact e
  · exact absurd hw (apart_iff.1 (h.ap i hi j hj e a b ha hb)).1
def payAt (q : List Bid) (i : Nat) : Int := match q[i]? with | some b => b.pay | none => 0
theorem payAt_some {q : List Bid} {i : Nat} {b : Bid} (h : q[i]? = some b) : payAt q i = b.pay := by unfold payAt; rw [h]
def bringsL (q : List Bid) (l : List Nat) : Int := (l.map (payAt q)).sum
theorem brings_nil (q : List Bid) : bringsL q [] = 0 := rfl
theorem brings_cons (q : List Bid) (i : Nat) (l : List Nat) : bringsL q (i :: l) = payAt q i + bringsL q l := by simp [bringsL]
theorem brings_app (q : List Bid) (l m : List Nat) : bringsL q (l ++ m) = bringsL q l + bringsL q m := by simp [bringsL]
/-- What a sale brings is what some of its bids bring, and what the others do. -/
theorem brings_split (q : List Bid) (p : Nat → Bool) : ∀ l : List Nat, bringsL q l = bringsL q (l.filter p) + bringsL q (l.filter fun i => !p i)
  | [] => rfl
  | i :: l => by
    have ih := brings_split q p l
    rw [brings_cons]
    cases h : p i
    · rw [List.filter_cons_of_neg (by simp [h]), List.filter_cons_of_pos (by simp [h]), brings_cons]; omega
    · rw [List.filter_cons_of_pos h, List.filter_cons_of_neg (by simp [h]), brings_cons]; omega
theorem brings_nonneg {q : List Bid} (hq : ∀ b ∈ q, 0 ≤ b.pay) : ∀ l : List Nat, 0 ≤ bringsL q l
  | [] => by simp [bringsL]
  | i :: l => by
    have := brings_nonneg hq l
    rw [brings_cons]
    have : 0 ≤ payAt q i := by
      unfold payAt
      cases h : q[i]? with
      | none => simp
      | some b => exact hq b (List.mem_of_getElem? h)
    omega
/-- With one bid alone of those for which p holds, these bring what it does. -/
theorem brings_one {q : List Bid} {p : Nat → Bool} {i : Nat} (hi : p i = true) : ∀ {l : List Nat}, l.Nodup → i ∈ l → (∀ j ∈ l, p j = true → j = i) → bringsL q (l.filter p) = payAt q i
  | [], _, h, _ => by simp at h
  | k :: l, hn, h, hu => by
    have hnd := List.nodup_cons.1 hn
    by_cases e : k = i
    · subst e
      rw [List.filter_cons_of_pos hi, brings_cons]
      have : l.filter p = [] := by
        rw [List.filter_eq_nil_iff]
        intro j hj hp
        have := hu j (by simp [hj]) hp
        subst this
        exact hnd.1 hj
      rw [this, brings_nil]; omega
    · have hk : ¬ p k = true := fun hp => e (hu k (by simp) hp)
      rw [List.filter_cons_of_neg hk]
      refine brings_one hi hnd.2 ?_ fun j hj => hu j (by simp [hj])
      rcases List.mem_cons.1 h with h | h
      · exact absurd h.symm e
      · exact h
theorem brings_none {q : List Bid} {p : Nat → Bool} {l : List Nat} (h : ∀ j ∈ l, ¬ p j = true) : bringsL q (l.filter p) = 0 := by
  rw [List.filter_eq_nil_iff.2 h]; rfl

/-! The best of those sales for which something holds. -/
/-- n is what the best of them bring; below 0: there is none. -/
structure MostIs (q : List Bid) (rd : List Int) (P : List Nat → Prop) (n : Int) : Prop where
  ge : ∀ l, SaleL q rd l → P l → bringsL q l ≤ n
  at_ : (n = -1 ∧ ∀ l, SaleL q rd l → ¬ P l) ∨ ∃ l, SaleL q rd l ∧ P l ∧ bringsL q l = n
theorem MostIs.unique {q : List Bid} {rd : List Int} {P : List Nat → Prop} {n m : Int} (h : MostIs q rd P n) (k : MostIs q rd P m) : n = m := by
  rcases h.at_ with ⟨h1, h2⟩ | ⟨l, h1, h2, h3⟩ <;> rcases k.at_ with ⟨k1, k2⟩ | ⟨l', k1, k2, k3⟩
  · omega
  · exact absurd k2 (h2 l' k1)
  · exact absurd h2 (k2 l h1)
  · have := h.ge l' k1 k2
    have := k.ge l h1 h2
    omega
theorem MostIs.all_nonneg {q : List Bid} {rd : List Int} {n : Int} (h : MostIs q rd (fun _ => True) n) : 0 ≤ n := h.ge [] (SaleL.nil q rd) trivial
/-- Less is asked for: the best do not bring less. -/
theorem MostIs.mono {q : List Bid} {rd : List Int} {P Q : List Nat → Prop} {n m : Int} (h : MostIs q rd P n) (k : MostIs q rd Q m) (hPQ : ∀ l, SaleL q rd l → P l → Q l) (hm : -1 ≤ m) : n ≤ m := by
  rcases h.at_ with ⟨h1, _⟩ | ⟨l, h1, h2, h3⟩
  · omega
  · rw [← h3]; exact k.ge l h1 (hPQ l h1 h2)
/-- One list of numbers comes ahead of another one: it is shorter, or as long and less. -/
def earlierN : List Nat → List Nat → Bool
  | x :: a, y :: b => if x = y then earlierN a b else decide (x < y)
  | _, _ => false
def aheadP (p b : List Nat) : Prop := p.length < b.length ∨ (p.length = b.length ∧ earlierN p b = true)
theorem earlierN_irr : ∀ (a : List Nat), earlierN a a = false
  | [] => rfl
  | x :: a => by simp only [earlierN, if_true]; exact earlierN_irr a
theorem earlierN_total : ∀ (a b : List Nat), a.length = b.length → a = b ∨ earlierN a b = true ∨ earlierN b a = true
  | [], [], _ => .inl rfl
  | x :: a, y :: b, h => by
    by_cases e : x = y
    · subst e
      rcases earlierN_total a b (by simpa using h) with h | h | h
      · exact .inl (by rw [h])
      · exact .inr (.inl (by simp [earlierN, h]))
      · exact .inr (.inr (by simp [earlierN, h]))
    · by_cases hl : x < y
      · exact .inr (.inl (by simp [earlierN, e, hl]))
      · exact .inr (.inr (by simp only [earlierN]; rw [if_neg (fun h => e h.symm)]; exact decide_eq_true (by omega)))
theorem earlierN_trans : ∀ {a b c : List Nat}, earlierN a b = true → earlierN b c = true → earlierN a c = true
  | [], _, _, h, _ => by simp [earlierN] at h
  | _ :: _, [], _, h, _ => by simp [earlierN] at h
  | _ :: _, _ :: _, [], _, h => by simp [earlierN] at h
  | x :: a, y :: b, z :: c, h1, h2 => by
    simp only [earlierN] at h1 h2 ⊢
    by_cases e1 : x = y
    · subst e1
      rw [if_pos rfl] at h1
      by_cases e2 : x = z
      · subst e2
        rw [if_pos rfl] at h2 ⊢
        exact earlierN_trans h1 h2
      · rw [if_neg e2] at h2 ⊢; exact h2
    · rw [if_neg e1, decide_eq_true_eq] at h1
      by_cases e2 : y = z
      · subst e2
        rw [if_neg e1]; exact decide_eq_true h1
      · rw [if_neg e2, decide_eq_true_eq] at h2
        rw [if_neg (by omega)]; exact decide_eq_true (by omega)
theorem ahead_irr (a : List Nat) : ¬ aheadP a a := by
  rintro (h | ⟨_, h⟩)
  · omega
  · rw [earlierN_irr] at h; cases h
theorem ahead_total (a b : List Nat) : a = b ∨ aheadP a b ∨ aheadP b a := by
  by_cases h : a.length = b.length
  · rcases earlierN_total a b h with h1 | h1 | h1
    · exact .inl h1
    · exact .inr (.inl (.inr ⟨h, h1⟩))
    · exact .inr (.inr (.inr ⟨h.symm, h1⟩))
  · by_cases hl : a.length < b.length
    · exact .inr (.inl (.inl hl))
    · exact .inr (.inr (.inl (by omega)))
theorem ahead_trans {a b c : List Nat} (h1 : aheadP a b) (h2 : aheadP b c) : aheadP a c := by
  rcases h1 with h1 | ⟨h1, h1'⟩ <;> rcases h2 with h2 | ⟨h2, h2'⟩
  · exact .inl (by omega)
  · exact .inl (by omega)
  · exact .inl (by omega)
  · exact .inr ⟨by omega, earlierN_trans h1' h2'⟩
/-- The winners: the first best sale. -/
structure WinIs (q : List Bid) (rd : List Int) (l : List Nat) : Prop where
  sale : SaleL q rd l
  ge : ∀ l', SaleL q rd l' → bringsL q l' ≤ bringsL q l
  first : ∀ l', SaleL q rd l' → bringsL q l' = bringsL q l → ¬ aheadP l' l
theorem WinIs.unique {q : List Bid} {rd : List Int} {l m : List Nat} (h : WinIs q rd l) (k : WinIs q rd m) : l = m := by
  have e : bringsL q l = bringsL q m := Int.le_antisymm (k.ge l h.sale) (h.ge m k.sale)
  rcases ahead_total l m with h1 | h1 | h1
  · exact h1
  · exact absurd h1 (k.first l h.sale e)
  · exact absurd h1 (h.first m k.sale e.symm)
theorem WinIs.most {q : List Bid} {rd : List Int} {l : List Nat} (h : WinIs q rd l) : MostIs q rd (fun _ => True) (bringsL q l) :=
  ⟨fun l' h' _ => h.ge l' h', .inr ⟨l, h.sale, trivial, rfl⟩⟩

/-! Sales in plain words: what a buyer pays; another price; the need of a bid. -/
/-- Is a bid one of a buyer? -/
def ownP (q : List Bid) (v : Int) (i : Nat) : Bool := match q[i]? with | some b => decide (b.who = v) | none => false
theorem own_some {q : List Bid} {v : Int} {i : Nat} {b : Bid} (h : q[i]? = some b) : ownP q v i = decide (b.who = v) := by unfold ownP; rw [h]
/-- A sale without bids of a buyer. -/
def NoneOf (q : List Bid) (v : Int) (l : List Nat) : Prop := ∀ i ∈ l, ¬ ownP q v i = true
theorem noneOf_others (q : List Bid) (v : Int) (l : List Nat) : NoneOf q v (l.filter fun i => !ownP q v i) := fun i hi => by
  have := (List.mem_filter.1 hi).2
  simpa using this
/-- What the other winners bring. -/
def othersL (q : List Bid) (v : Int) (l : List Nat) : Int := bringsL q (l.filter fun i => !ownP q v i)
def ownL (q : List Bid) (v : Int) (l : List Nat) : Int := bringsL q (l.filter (ownP q v))
theorem own_others (q : List Bid) (v : Int) (l : List Nat) : bringsL q l = ownL q v l + othersL q v l := brings_split q (ownP q v) l
theorem own_at {q : List Bid} {rd : List Int} {l : List Nat} (h : SaleL q rd l) {v : Int} {i : Nat} (hi : i ∈ l) (ho : ownP q v i = true) : ownL q v l = payAt q i := by
  refine brings_one ho h.nodup hi fun j hj hp => ?_
  obtain ⟨a, ha, _⟩ := h.rdy i hi
  obtain ⟨b, hb, _⟩ := h.rdy j hj
  rw [own_some ha, decide_eq_true_eq] at ho
  rw [own_some hb, decide_eq_true_eq] at hp
  exact h.one hj hi hb ha (by rw [hp, ho])
theorem own_none {q : List Bid} {v : Int} {l : List Nat} (h : NoneOf q v l) : ownL q v l = 0 := brings_none h
/-- What a buyer pays lies between nothing and the winning bid; m: the most without the buyer. -/
theorem pays_bd {q : List Bid} {rd : List Int} {v m : Int} {l : List Nat} (h : WinIs q rd l) (hm : MostIs q rd (NoneOf q v) m) : 0 ≤ m - othersL q v l ∧ m - othersL q v l ≤ ownL q v l ∧ m ≤ bringsL q l := by
  have h1 := hm.ge _ (h.sale.sub _) (noneOf_others q v l)
  have h2 : m ≤ bringsL q l := by
    rcases hm.at_ with ⟨_, h3⟩ | ⟨l', h3, _, h4⟩
    · exact absurd (noneOf_others q v l) (h3 _ (h.sale.sub _))
    · rw [← h4]; exact h.ge l' h3
  have h3 := own_others q v l
  unfold othersL at h3 ⊢
  omega
/-- Without a winning bid nothing is paid. -/
theorem pays_none {q : List Bid} {rd : List Int} {v m : Int} {l : List Nat} (h : WinIs q rd l) (hm : MostIs q rd (NoneOf q v) m) (hn : NoneOf q v l) : m - othersL q v l = 0 := by
  have := pays_bd h hm
  have := own_none hn
  omega
/-- What buyers below n bring together. -/
def ownTo (q : List Bid) (l : List Nat) (n : Nat) : Int := ((List.range n).map fun v : Nat => ownL q v l).sum
theorem ownTo_succ (q : List Bid) (l : List Nat) (n : Nat) : ownTo q l (n + 1) = ownTo q l n + ownL q n l := by
  unfold ownTo; rw [List.range_succ, List.map_append, List.sum_append]; simp
theorem ownL_cons (q : List Bid) (v : Int) (i : Nat) (l : List Nat) : ownL q v (i :: l) = (if ownP q v i = true then payAt q i else 0) + ownL q v l := by
  unfold ownL
  by_cases h : ownP q v i = true
  · rw [List.filter_cons_of_pos h, brings_cons, if_pos h]
  · rw [List.filter_cons_of_neg h, if_neg h]; omega
theorem ownTo_nil (q : List Bid) : ∀ n, ownTo q [] n = 0
  | 0 => rfl
  | n + 1 => by rw [ownTo_succ, ownTo_nil q n]; rfl
theorem ownTo_cons (q : List Bid) (i : Nat) (l : List Nat) : ∀ n, ownTo q (i :: l) n = ((List.range n).map fun v : Nat => if ownP q v i = true then payAt q i else 0).sum + ownTo q l n
  | 0 => rfl
  | n + 1 => by
    rw [ownTo_succ, ownTo_succ, ownTo_cons q i l n, ownL_cons, List.range_succ, List.map_append, List.sum_append]
    simp only [List.map_cons, List.map_nil, List.sum_cons, List.sum_nil]
    omega
theorem one_of (x w : Int) : ∀ n : Nat, 0 ≤ w → ((List.range n).map fun v : Nat => if decide (w = (v : Int)) = true then x else 0).sum = if w < n then x else 0
  | 0, h => by rw [if_neg (by omega)]; rfl
  | n + 1, h => by
    rw [List.range_succ, List.map_append, List.sum_append, one_of x w n h]
    simp only [List.map_cons, List.map_nil, List.sum_cons, List.sum_nil, decide_eq_true_eq]
    by_cases h1 : w < n
    · rw [if_pos h1, if_neg (by omega), if_pos (by omega)]; omega
    · by_cases h2 : w = n
      · rw [if_neg h1, if_pos h2, if_pos (by omega)]; omega
      · rw [if_neg h1, if_neg h2, if_neg (by omega)]; omega
/-- All that a sale brings is what its buyers bring. -/
theorem ownTo_all {q : List Bid} {n : Nat} : ∀ {l : List Nat}, (∀ i ∈ l, ∃ b, q[i]? = some b ∧ 0 ≤ b.who ∧ b.who < n) → ownTo q l n = bringsL q l
  | [], _ => by rw [ownTo_nil]; rfl
  | i :: l, h => by
    obtain ⟨b, hb, h1, h2⟩ := h i (by simp)
    rw [ownTo_cons, ownTo_all fun j hj => h j (by simp [hj]), brings_cons]
    have : ((List.range n).map fun v : Nat => if ownP q v i = true then payAt q i else 0) = (List.range n).map fun v : Nat => if decide (b.who = (v : Int)) = true then payAt q i else 0 := by
      apply List.map_congr_left
      intro v _
      rw [own_some hb]
    rw [this, one_of _ _ _ h1, if_pos h2]

/-! Another price. -/
/-- A bid has other pence. -/
def offerQ (q : List Bid) (i : Nat) (p : Int) : List Bid := match q[i]? with | some b => q.set i { b with pay := p } | none => q
theorem offer_eq {q : List Bid} {i : Nat} {b : Bid} (h : q[i]? = some b) (p : Int) : offerQ q i p = q.set i { b with pay := p } := by unfold offerQ; rw [h]
theorem offer_at {q : List Bid} {i : Nat} {b : Bid} (h : q[i]? = some b) (p : Int) (j : Nat) : (offerQ q i p)[j]? = if j = i then some { b with pay := p } else q[j]? := by
  rw [offer_eq h, List.getElem?_set]
  by_cases e : i = j
  · subst e
    rw [if_pos rfl, if_pos rfl, if_pos (List.getElem?_eq_some_iff.1 h).1]
  · rw [if_neg e, if_neg (fun e' => e e'.symm)]
/-- All but the pence is as before. -/
theorem offer_like {q : List Bid} {i : Nat} {b : Bid} (h : q[i]? = some b) (p : Int) (j : Nat) : (offerQ q i p)[j]?.map (fun x => (x.who, x.bar)) = q[j]?.map fun x => (x.who, x.bar) := by
  rw [offer_at h]
  by_cases e : j = i
  · subst e; rw [if_pos rfl, h]; rfl
  · rw [if_neg e]
theorem sale_like {q r : List Bid} (h : ∀ j : Nat, r[j]?.map (fun x : Bid => (x.who, x.bar)) = q[j]?.map fun x : Bid => (x.who, x.bar)) {rd : List Int} {l : List Nat} (hs : SaleL q rd l) : SaleL r rd l := by
  have hget : ∀ {j : Nat} {x : Bid}, r[j]? = some x → ∃ y, q[j]? = some y ∧ y.who = x.who ∧ y.bar = x.bar := fun {j x} hx => by
    have := h j
    rw [hx] at this
    cases hy : q[j]? with
    | none => rw [hy] at this; cases this
    | some y => rw [hy] at this; simp only [Option.map_some, Option.some.injEq, Prod.mk.injEq] at this; exact ⟨y, rfl, this.1.symm, this.2.symm⟩
  have hget2 : ∀ {j : Nat} {y : Bid}, q[j]? = some y → ∃ x, r[j]? = some x ∧ y.who = x.who ∧ y.bar = x.bar := fun {j y} hy => by
    have := h j
    rw [hy] at this
    cases hx : r[j]? with
    | none => rw [hx] at this; cases this
    | some x => rw [hx] at this; simp only [Option.map_some, Option.some.injEq, Prod.mk.injEq] at this; exact ⟨x, rfl, this.1.symm, this.2.symm⟩
  refine ⟨hs.up, fun i hi => ?_, fun i hi j hj hne a b ha hb => ?_⟩
  · obtain ⟨y, hy, hr⟩ := hs.rdy i hi
    obtain ⟨x, hx, h1, h2⟩ := hget2 hy
    refine ⟨x, hx, ?_⟩
    unfold readyB at hr ⊢
    rw [← h2]; exact hr
  · obtain ⟨a', ha', w1, b1⟩ := hget ha
    obtain ⟨b', hb', w2, b2⟩ := hget hb
    have := hs.ap i hi j hj hne a' b' ha' hb'
    unfold apartB at this ⊢
    rw [← w1, ← b1, ← w2, ← b2]; exact this
theorem offer_sale {q : List Bid} {i : Nat} {b : Bid} (h : q[i]? = some b) (p : Int) {rd : List Int} {l : List Nat} : SaleL (offerQ q i p) rd l ↔ SaleL q rd l :=
  ⟨sale_like fun j => (offer_like h p j).symm, sale_like (offer_like h p)⟩
theorem offer_own {q : List Bid} {i : Nat} {b : Bid} (h : q[i]? = some b) (p : Int) (v : Int) (j : Nat) : ownP (offerQ q i p) v j = ownP q v j := by
  unfold ownP
  rw [offer_at h]
  by_cases e : j = i
  · subst e; rw [if_pos rfl, h]
  · rw [if_neg e]
theorem offer_pay {q : List Bid} {i : Nat} {b : Bid} (h : q[i]? = some b) (p : Int) (j : Nat) : payAt (offerQ q i p) j = if j = i then p else payAt q j := by
  unfold payAt
  rw [offer_at h]
  by_cases e : j = i
  · subst e; rw [if_pos rfl, if_pos rfl]
  · rw [if_neg e, if_neg e]
theorem offer_out {q : List Bid} {i : Nat} {b : Bid} (h : q[i]? = some b) (p : Int) : ∀ {l : List Nat}, ¬ i ∈ l → bringsL (offerQ q i p) l = bringsL q l
  | [], _ => rfl
  | j :: l, hn => by
    rw [brings_cons, brings_cons, offer_out h p (fun hm => hn (by simp [hm])), offer_pay h, if_neg (fun e => hn (by simp [e]))]
theorem offer_in {q : List Bid} {i : Nat} {b : Bid} (h : q[i]? = some b) (p : Int) : ∀ {l : List Nat}, l.Nodup → i ∈ l → bringsL (offerQ q i p) l = bringsL q l + (p - b.pay)
  | [], _, hm => by simp at hm
  | j :: l, hn, hm => by
    have hnd := List.nodup_cons.1 hn
    rw [brings_cons, brings_cons, offer_pay h]
    by_cases e : j = i
    · subst e
      rw [if_pos rfl, offer_out h p hnd.1, payAt_some h]; omega
    · rw [if_neg e, offer_in h p hnd.2 (by rcases List.mem_cons.1 hm with hm | hm; exact absurd hm.symm e; exact hm)]; omega
/-- The best with a bid, at another price. -/
theorem offer_with {q : List Bid} {rd : List Int} {i : Nat} {b : Bid} {w : Int} (h : q[i]? = some b) (p : Int) (hw : MostIs q rd (fun l => i ∈ l) w) : MostIs (offerQ q i p) rd (fun l => i ∈ l) (if w = -1 then -1 else w - b.pay + p) ∨ (∃ l, SaleL q rd l ∧ i ∈ l ∧ bringsL q l = -1) := by
  by_cases hw1 : w = -1
  · rcases hw.at_ with ⟨_, hno⟩ | ⟨l, h1, h2, h3⟩
    · left
      rw [if_pos hw1]
      exact ⟨fun l hl hi => absurd hi (hno l ((offer_sale h p).1 hl)), .inl ⟨rfl, fun l hl => hno l ((offer_sale h p).1 hl)⟩⟩
    · exact .inr ⟨l, h1, h2, by omega⟩
  · left
    rw [if_neg hw1]
    refine ⟨fun l hl hi => ?_, .inr ?_⟩
    · have hs := (offer_sale h p).1 hl
      have := hw.ge l hs hi
      rw [offer_in h p hl.nodup hi]; omega
    · rcases hw.at_ with ⟨e, _⟩ | ⟨l, h1, h2, h3⟩
      · exact absurd e hw1
      · exact ⟨l, (offer_sale h p).2 h1, h2, by rw [offer_in h p h1.nodup h2]; omega⟩
/-- The best without a bid do not see its price. -/
theorem offer_without {q : List Bid} {rd : List Int} {i : Nat} {b : Bid} {w : Int} (h : q[i]? = some b) (p : Int) (hw : MostIs q rd (fun l => ¬ i ∈ l) w) : MostIs (offerQ q i p) rd (fun l => ¬ i ∈ l) w := by
  refine ⟨fun l hl hi => ?_, ?_⟩
  · rw [offer_out h p hi]; exact hw.ge l ((offer_sale h p).1 hl) hi
  · rcases hw.at_ with ⟨e, hno⟩ | ⟨l, h1, h2, h3⟩
    · exact .inl ⟨e, fun l hl => hno l ((offer_sale h p).1 hl)⟩
    · exact .inr ⟨l, (offer_sale h p).2 h1, h2, by rw [offer_out h p h2]; exact h3⟩
/-- The best of all are the best with a bid, or those without. -/
theorem most_two {q : List Bid} {rd : List Int} {i : Nat} {w1 w0 : Int} (h1 : MostIs q rd (fun l => i ∈ l) w1) (h0 : MostIs q rd (fun l => ¬ i ∈ l) w0) (hn : 0 ≤ w0) : MostIs q rd (fun _ => True) (max w1 w0) := by
  refine ⟨fun l hl _ => ?_, .inr ?_⟩
  · by_cases hi : i ∈ l
    · have := h1.ge l hl hi; omega
    · have := h0.ge l hl hi; omega
  · by_cases hle : w0 < w1
    · rcases h1.at_ with ⟨e, _⟩ | ⟨l, k1, k2, k3⟩
      · omega
      · exact ⟨l, k1, trivial, by omega⟩
    · rcases h0.at_ with ⟨e, _⟩ | ⟨l, k1, k2, k3⟩
      · omega
      · exact ⟨l, k1, trivial, by omega⟩
theorem without_nonneg {q : List Bid} {rd : List Int} {i : Nat} {w0 : Int} (h0 : MostIs q rd (fun l => ¬ i ∈ l) w0) : 0 ≤ w0 := h0.ge [] (SaleL.nil q rd) (by simp)
/-- Had a buyer bid more for what they won, they would have won it, and paid the same. -/
theorem honest {q : List Bid} {rd : List Int} {i : Nat} {b : Bid} {d m : Int} {l k : List Nat} (hb : q[i]? = some b) (hd : 0 < d) (h : WinIs q rd l) (hi : i ∈ l) (hk : WinIs (offerQ q i (b.pay + d)) rd k) (hm : MostIs q rd (NoneOf q b.who) m) :
    i ∈ k ∧ MostIs (offerQ q i (b.pay + d)) rd (NoneOf (offerQ q i (b.pay + d)) b.who) m ∧ othersL (offerQ q i (b.pay + d)) b.who k = othersL q b.who l := by
  have hls := (offer_sale hb (b.pay + d)).2 h.sale
  have hks := (offer_sale hb (b.pay + d)).1 hk.sale
  have h1 := hk.ge l hls
  rw [offer_in hb _ h.sale.nodup hi] at h1
  have hik : i ∈ k := by
    apply Classical.byContradiction
    intro hn
    rw [offer_out hb _ hn] at h1
    have := h.ge k hks
    omega
  have hown : ownP q b.who i = true := by rw [own_some hb]; simp
  have hno : ∀ l', NoneOf (offerQ q i (b.pay + d)) b.who l' ↔ NoneOf q b.who l' := fun l' => by
    unfold NoneOf
    exact forall_congr' fun j => imp_congr Iff.rfl (by rw [offer_own hb])
  have hnot : ∀ l', NoneOf q b.who l' → ¬ i ∈ l' := fun l' h' hm' => h' i hm' hown
  refine ⟨hik, ⟨fun l' hl' hp => ?_, ?_⟩, ?_⟩
  · have hp' := (hno l').1 hp
    rw [offer_out hb _ (hnot l' hp')]
    exact hm.ge l' ((offer_sale hb _).1 hl') hp'
  · rcases hm.at_ with ⟨e, hq⟩ | ⟨l', k1, k2, k3⟩
    · exact .inl ⟨e, fun l' hl' hp => hq l' ((offer_sale hb _).1 hl') ((hno l').1 hp)⟩
    · exact .inr ⟨l', (offer_sale hb _).2 k1, (hno l').2 k2, by rw [offer_out hb _ (hnot l' k2)]; exact k3⟩
  · have e1 := own_others (offerQ q i (b.pay + d)) b.who k
    have e2 := own_others q b.who l
    rw [own_at hk.sale hik (by rw [offer_own hb]; exact hown), offer_pay hb, if_pos rfl] at e1
    rw [own_at h.sale hi hown, payAt_some hb] at e2
    have h2 : bringsL (offerQ q i (b.pay + d)) k = bringsL q k + d := by rw [offer_in hb _ hk.sale.nodup hik]; omega
    have h3 := h.ge k hks
    omega
/-- More is ready: the best do not bring less. -/
theorem sale_later {q : List Bid} {rd rd' : List Int} (h : ∀ n ∈ rd, n ∈ rd') {l : List Nat} (hs : SaleL q rd l) : SaleL q rd' l :=
  ⟨hs.up, fun i hi => by
    obtain ⟨b, hb, hr⟩ := hs.rdy i hi
    exact ⟨b, hb, ready_iff.2 fun n hn => h n (ready_iff.1 hr n hn)⟩, hs.ap⟩
theorem most_later {q : List Bid} {rd rd' : List Int} (h : ∀ n ∈ rd, n ∈ rd') {n m : Int} (hn : MostIs q rd (fun _ => True) n) (hm : MostIs q rd' (fun _ => True) m) : n ≤ m := by
  rcases hn.at_ with ⟨_, h1⟩ | ⟨l, h1, _, h3⟩
  · exact absurd trivial (h1 [] (SaleL.nil q rd))
  · rw [← h3]; exact hm.ge l (sale_later h h1) trivial
/-- One more bid: the best do not bring less. -/
theorem sale_more {q : List Bid} (b : Bid) {rd : List Int} {l : List Nat} (hs : SaleL q rd l) : SaleL (q ++ [b]) rd l ∧ bringsL (q ++ [b]) l = bringsL q l := by
  have hat : ∀ i ∈ l, (q ++ [b])[i]? = q[i]? := fun i hi => List.getElem?_append_left (hs.lt hi)
  refine ⟨⟨hs.up, fun i hi => by rw [hat i hi]; exact hs.rdy i hi, fun i hi j hj hne x y hx hy => ?_⟩, ?_⟩
  · rw [hat i hi] at hx; rw [hat j hj] at hy
    exact hs.ap i hi j hj hne x y hx hy
  · unfold bringsL
    congr 1
    apply List.map_congr_left
    intro i hi
    unfold payAt
    rw [hat i hi]
theorem most_more {q : List Bid} (b : Bid) {rd : List Int} {n m : Int} (hn : MostIs q rd (fun _ => True) n) (hm : MostIs (q ++ [b]) rd (fun _ => True) m) : n ≤ m := by
  rcases hn.at_ with ⟨_, h1⟩ | ⟨l, h1, _, h3⟩
  · exact absurd trivial (h1 [] (SaleL.nil q rd))
  · rw [← h3, ← (sale_more b h1).2]; exact hm.ge l (sale_more b h1).1 trivial

/-! Sales in plain words: sets of bids as the bits of a number; the loops over all sets. -/
/-- The numbers below n that a set holds. -/
def bitsL (n m : Nat) : List Nat := (List.range n).filter fun i => m.testBit i
theorem mem_bits {n m i : Nat} : i ∈ bitsL n m ↔ i < n ∧ m.testBit i = true := by
  unfold bitsL; rw [List.mem_filter, List.mem_range]
theorem bits_up (n m : Nat) : (bitsL n m).Pairwise (· < ·) := List.pairwise_lt_range.filter _
theorem bits_len (n m : Nat) : (bitsL n m).length ≤ n := Nat.le_trans (List.length_filter_le _ _) (by simp)
theorem bits_succ (n m : Nat) : bitsL (n + 1) m = bitsL n m ++ if m.testBit n = true then [n] else [] := by
  unfold bitsL
  rw [List.range_succ, List.filter_append]
  congr 1
  cases h : m.testBit n <;> simp [h]
theorem bit_add8 : ∀ k, k < 8 → ∀ st, st < 2 ^ k → (st + 2 ^ k).testBit k = true ∧ st.testBit k = false ∧ ∀ i, i < k → (st + 2 ^ k).testBit i = st.testBit i := by decide +kernel
theorem bits_ext {n m m' : Nat} (h : ∀ i, i < n → m.testBit i = m'.testBit i) : bitsL n m = bitsL n m' := by
  unfold bitsL
  apply List.filter_congr
  intro i hi
  exact h i (List.mem_range.1 hi)
/-- Each ascending list of numbers below n is a set. -/
theorem bits_all : ∀ n, n ≤ 8 → ∀ l : List Nat, l.Pairwise (· < ·) → (∀ i ∈ l, i < n) → ∃ m, m < 2 ^ n ∧ bitsL n m = l
  | 0, _, l, _, h => by
    have : l = [] := by
      cases l with
      | nil => rfl
      | cons x l => exact absurd (h x (by simp)) (by omega)
    subst this
    exact ⟨0, by simp, rfl⟩
  | n + 1, hn, l, hp, h => by
    by_cases hm : n ∈ l
    · obtain ⟨a, b, rfl⟩ := List.append_of_mem hm
      rw [List.pairwise_append] at hp
      have hb : b = [] := by
        cases b with
        | nil => rfl
        | cons x b =>
          have h1 := List.pairwise_cons.1 hp.2.1
          have := h1.1 x (by simp)
          have := h x (by simp)
          omega
      subst hb
      obtain ⟨m, h1, h2⟩ := bits_all n (by omega) a hp.1 fun i hi => hp.2.2 i hi n (by simp)
      obtain ⟨k1, _, k3⟩ := bit_add8 n (by omega) m h1
      refine ⟨m + 2 ^ n, by rw [Nat.pow_succ]; omega, ?_⟩
      rw [bits_succ, if_pos k1, bits_ext k3, h2]
    · obtain ⟨m, h1, h2⟩ := bits_all n (by omega) l hp fun i hi => by
        have := h i hi
        have : i ≠ n := fun e => hm (e ▸ hi)
        omega
      obtain ⟨_, k2, _⟩ := bit_add8 n (by omega) m h1
      refine ⟨m, by rw [Nat.pow_succ]; omega, ?_⟩
      rw [bits_succ, if_neg (by simp [k2]), List.append_nil, h2]
/-- One more bid of a sale. -/
theorem sale_snoc {q : List Bid} {rd : List Int} {l : List Nat} {i : Nat} {b : Bid} (h : SaleL q rd l) (hi : ∀ j ∈ l, j < i) (hb : q[i]? = some b) : SaleL q rd (l ++ [i]) ↔ readyB rd b = true ∧ ∀ j ∈ l, ∀ a, q[j]? = some a → apartB a b = true := by
  constructor
  · intro hs
    refine ⟨?_, fun j hj a ha => hs.ap j (by simp [hj]) i (by simp) (by have := hi j hj; omega) a b ha hb⟩
    obtain ⟨c, hc, hr⟩ := hs.rdy i (by simp)
    rw [hb] at hc; cases hc
    exact hr
  · rintro ⟨h1, h2⟩
    refine ⟨?_, fun j hj => ?_, fun j hj k hk hne x y hx hy => ?_⟩
    · rw [List.pairwise_append]
      exact ⟨h.up, by simp, fun j hj k hk => by simp at hk; subst hk; exact hi j hj⟩
    · rcases List.mem_append.1 hj with hj | hj
      · exact h.rdy j hj
      · simp at hj; subst hj; exact ⟨b, hb, h1⟩
    · rcases List.mem_append.1 hj with hj1 | hj1 <;> rcases List.mem_append.1 hk with hk1 | hk1
      · exact h.ap j hj1 k hk1 hne x y hx hy
      · rw [List.mem_singleton.1 hk1, hb] at hy; cases hy
        exact h2 j hj1 x hx
      · rw [List.mem_singleton.1 hj1, hb] at hx; cases hx
        exact apart_symm (h2 k hk1 y hy)
      · exact absurd ((List.mem_singleton.1 hj1).trans (List.mem_singleton.1 hk1).symm) hne
theorem sale_pre {q : List Bid} {rd : List Int} {l m : List Nat} (h : SaleL q rd (l ++ m)) : SaleL q rd l :=
  ⟨(List.pairwise_append.1 h.up).1, fun i hi => h.rdy i (by simp [hi]), fun i hi j hj => h.ap i (by simp [hi]) j (by simp [hj])⟩
/-- n is what the best of the first k sets bring. -/
structure MostTo (q : List Bid) (rd : List Int) (P : List Nat → Prop) (k : Nat) (n : Int) : Prop where
  ge : ∀ m, m < k → SaleL q rd (bitsL q.length m) → P (bitsL q.length m) → bringsL q (bitsL q.length m) ≤ n
  at_ : (n = -1 ∧ ∀ m, m < k → SaleL q rd (bitsL q.length m) → ¬ P (bitsL q.length m)) ∨ ∃ m, m < k ∧ SaleL q rd (bitsL q.length m) ∧ P (bitsL q.length m) ∧ bringsL q (bitsL q.length m) = n
theorem MostTo.zero (q : List Bid) (rd : List Int) (P : List Nat → Prop) : MostTo q rd P 0 (-1) := ⟨fun m h => absurd h (by omega), .inl ⟨rfl, fun m h => absurd h (by omega)⟩⟩
theorem MostTo.skip {q : List Bid} {rd : List Int} {P : List Nat → Prop} {k : Nat} {n : Int} (h : MostTo q rd P k n) (hn : SaleL q rd (bitsL q.length k) → ¬ P (bitsL q.length k)) : MostTo q rd P (k + 1) n := by
  refine ⟨fun m hm h1 h2 => ?_, ?_⟩
  · by_cases e : m = k
    · subst e; exact absurd h2 (hn h1)
    · exact h.ge m (by omega) h1 h2
  · rcases h.at_ with ⟨e, h2⟩ | ⟨m, h1, h2⟩
    · refine .inl ⟨e, fun m hm h1 => ?_⟩
      by_cases e : m = k
      · subst e; exact hn h1
      · exact h2 m (by omega) h1
    · exact .inr ⟨m, by omega, h2⟩
theorem MostTo.take {q : List Bid} {rd : List Int} {P : List Nat → Prop} {k : Nat} {n : Int} (h : MostTo q rd P k n) (hs : SaleL q rd (bitsL q.length k)) (hp : P (bitsL q.length k)) (h0 : 0 ≤ bringsL q (bitsL q.length k)) : MostTo q rd P (k + 1) (max n (bringsL q (bitsL q.length k))) := by
  refine ⟨fun m hm h1 h2 => ?_, .inr ?_⟩
  · by_cases e : m = k
    · subst e; omega
    · have := h.ge m (by omega) h1 h2; omega
  · by_cases hle : bringsL q (bitsL q.length k) ≤ n
    · rcases h.at_ with ⟨e, _⟩ | ⟨m, h1, h2, h3, h4⟩
      · omega
      · exact ⟨m, by omega, h2, h3, by omega⟩
    · exact ⟨k, by omega, hs, hp, by omega⟩
theorem MostTo.all {q : List Bid} {rd : List Int} {P : List Nat → Prop} {n : Int} (hq : q.length ≤ 8) (h : MostTo q rd P (2 ^ q.length) n) : MostIs q rd P n := by
  have hset : ∀ l, SaleL q rd l → ∃ m, m < 2 ^ q.length ∧ bitsL q.length m = l := fun l hl => bits_all q.length hq l hl.up fun i hi => hl.lt hi
  refine ⟨fun l hl hp => ?_, ?_⟩
  · obtain ⟨m, h1, rfl⟩ := hset l hl
    exact h.ge m h1 hl hp
  · rcases h.at_ with ⟨e, h2⟩ | ⟨m, h1, h2, h3, h4⟩
    · refine .inl ⟨e, fun l hl => ?_⟩
      obtain ⟨m, h1, rfl⟩ := hset l hl
      exact h2 m h1 hl
    · exact .inr ⟨_, h2, h3, h4⟩
/-- The first best one of the first k sets. -/
structure WinTo (q : List Bid) (rd : List Int) (k : Nat) (l : List Nat) : Prop where
  sale : SaleL q rd l
  ge : ∀ m, m < k → SaleL q rd (bitsL q.length m) → bringsL q (bitsL q.length m) ≤ bringsL q l
  first : ∀ m, m < k → SaleL q rd (bitsL q.length m) → bringsL q (bitsL q.length m) = bringsL q l → ¬ aheadP (bitsL q.length m) l
theorem WinTo.skip {q : List Bid} {rd : List Int} {k : Nat} {l : List Nat} (h : WinTo q rd k l) (hn : SaleL q rd (bitsL q.length k) → bringsL q (bitsL q.length k) < bringsL q l ∨ (bringsL q (bitsL q.length k) = bringsL q l ∧ ¬ aheadP (bitsL q.length k) l)) : WinTo q rd (k + 1) l := by
  refine ⟨h.sale, fun m hm h1 => ?_, fun m hm h1 h2 => ?_⟩
  · by_cases e : m = k
    · subst e; rcases hn h1 with h2 | h2 <;> omega
    · exact h.ge m (by omega) h1
  · by_cases e : m = k
    · subst e; rcases hn h1 with h3 | h3
      · omega
      · exact h3.2
    · exact h.first m (by omega) h1 h2
theorem WinTo.take {q : List Bid} {rd : List Int} {k : Nat} {l : List Nat} (h : WinTo q rd k l) (hs : SaleL q rd (bitsL q.length k)) (hb : bringsL q l < bringsL q (bitsL q.length k) ∨ (bringsL q (bitsL q.length k) = bringsL q l ∧ aheadP (bitsL q.length k) l)) : WinTo q rd (k + 1) (bitsL q.length k) := by
  refine ⟨hs, fun m hm h1 => ?_, fun m hm h1 h2 h3 => ?_⟩
  · by_cases e : m = k
    · subst e; exact Int.le_refl _
    · have := h.ge m (by omega) h1
      rcases hb with hb | hb <;> omega
  · by_cases e : m = k
    · subst e; exact ahead_irr _ h3
    · have h4 := h.ge m (by omega) h1
      rcases hb with hb | ⟨hb, hb2⟩
      · omega
      · exact h.first m (by omega) h1 (by omega) (ahead_trans h3 hb2)
theorem WinTo.all {q : List Bid} {rd : List Int} {l : List Nat} (hq : q.length ≤ 8) (h : WinTo q rd (2 ^ q.length) l) : WinIs q rd l := by
  have hset : ∀ l, SaleL q rd l → ∃ m, m < 2 ^ q.length ∧ bitsL q.length m = l := fun l hl => bits_all q.length hq l hl.up fun i hi => hl.lt hi
  refine ⟨h.sale, fun l' hl => ?_, fun l' hl => ?_⟩
  · obtain ⟨m, h1, rfl⟩ := hset l' hl
    exact h.ge m h1 hl
  · obtain ⟨m, h1, rfl⟩ := hset l' hl
    exact h.first m h1 hl
theorem bits_zero (n : Nat) : bitsL n 0 = [] := by
  unfold bitsL
  rw [List.filter_eq_nil_iff]
  intro i _
  simp
/-- The empty set is the first one, a sale that brings nothing. -/
theorem WinTo.one (q : List Bid) (rd : List Int) : WinTo q rd 1 [] := by
  refine ⟨SaleL.nil q rd, fun m hm _ => ?_, fun m hm _ _ => ?_⟩
  · obtain rfl : m = 0 := by omega
    rw [bits_zero]; exact Int.le_refl _
  · obtain rfl : m = 0 := by omega
    rw [bits_zero]; exact ahead_irr _

/-! Won, and Need. -/
/-- Surely 1, never 2, perhaps 3, by the best with a bid and without it. -/
def wonN (w1 w0 : Int) : Int := if w0 < w1 then 1 else if w1 < w0 then 2 else 3
theorem won_sure {q : List Bid} {rd : List Int} {i : Nat} {w1 w0 n : Int} (h1 : MostIs q rd (fun l => i ∈ l) w1) (h0 : MostIs q rd (fun l => ¬ i ∈ l) w0) (hn : MostIs q rd (fun _ => True) n) {l : List Nat} (hl : SaleL q rd l) (hb : bringsL q l = n) : (wonN w1 w0 = 1 → i ∈ l) ∧ (wonN w1 w0 = 2 → ¬ i ∈ l) := by
  have e := hn.unique (most_two h1 h0 (without_nonneg h0))
  unfold wonN
  refine ⟨fun h => ?_, fun h hi => ?_⟩
  · split at h
    · apply Classical.byContradiction
      intro hi
      have := h0.ge l hl hi
      omega
    · split at h <;> cases h
  · split at h
    · cases h
    · split at h
      · have := h1.ge l hl hi
        omega
      · cases h
/-- The least pence with which a bid can win; above 99: none. -/
def needN (w1 w0 p : Int) : Int := if w1 < 0 then 100 else max 0 (w0 - (w1 - p))
theorem need_can {w1 w0 p x : Int} (hw : w1 = -1 ∨ 0 ≤ w1) (h0 : 0 ≤ w0) (hx : 0 ≤ x ∧ x ≤ 99) : wonN (if w1 = -1 then -1 else w1 - p + x) w0 = 2 ↔ x < needN w1 w0 p := by
  by_cases h : w1 = -1
  · have e2 : needN w1 w0 p = 100 := if_pos (by omega)
    rw [if_pos h, e2]
    unfold wonN
    rw [if_neg (by omega), if_pos (by omega)]
    exact ⟨fun _ => by omega, fun _ => rfl⟩
  · have e2 : needN w1 w0 p = max 0 (w0 - (w1 - p)) := if_neg (by omega)
    rw [if_neg h, e2]
    unfold wonN
    by_cases h1 : w0 < w1 - p + x
    · rw [if_pos h1]; constructor
      · intro h; cases h
      · intro h; omega
    · rw [if_neg h1]
      by_cases h2 : w1 - p + x < w0
      · rw [if_pos h2]; exact ⟨fun _ => by omega, fun _ => rfl⟩
      · rw [if_neg h2]; constructor
        · intro h; cases h
        · intro h; omega
/-- One penny more in a bid. -/
theorem penny_more {w1 w0 : Int} (_ : w1 = -1 ∨ 0 ≤ w1) (h0 : 0 ≤ w0) : (wonN w1 w0 = 2 ∧ max (if w1 = -1 then -1 else w1 + 1) w0 = max w1 w0) ∨ (wonN w1 w0 ≠ 2 ∧ max (if w1 = -1 then -1 else w1 + 1) w0 = max w1 w0 + 1) := by
  unfold wonN
  by_cases h : w1 = -1
  · rw [if_pos h, if_neg (by omega), if_pos (by omega)]
    exact .inl ⟨rfl, by omega⟩
  · rw [if_neg h]
    by_cases h1 : w0 < w1
    · rw [if_pos h1]; exact .inr ⟨by decide, by omega⟩
    · rw [if_neg h1]
      by_cases h2 : w1 < w0
      · rw [if_pos h2]; exact .inl ⟨rfl, by omega⟩
      · rw [if_neg h2]; exact .inr ⟨by decide, by omega⟩

/-! Sales in plain words: without a buyer; any order; other numbers of buyers. -/
/-- The greatest bid of a buyer, of the first k. -/
def highTo (q : List Bid) (v : Int) (k : Nat) : Int := (List.range k).foldl (fun n i => if ownP q v i = true then max n (payAt q i) else n) 0
theorem highTo_succ (q : List Bid) (v : Int) (k : Nat) : highTo q v (k + 1) = if ownP q v k = true then max (highTo q v k) (payAt q k) else highTo q v k := by
  unfold highTo; rw [List.range_succ, List.foldl_append]; rfl
theorem highTo_ge (q : List Bid) (v : Int) : ∀ k, 0 ≤ highTo q v k ∧ ∀ i, i < k → ownP q v i = true → payAt q i ≤ highTo q v k
  | 0 => ⟨Int.le_refl _, fun i hi => absurd hi (by omega)⟩
  | k + 1 => by
    obtain ⟨h1, h2⟩ := highTo_ge q v k
    rw [highTo_succ]
    by_cases h : ownP q v k = true
    · rw [if_pos h]
      refine ⟨by omega, fun i hi ho => ?_⟩
      by_cases e : i = k
      · subst e; omega
      · have := h2 i (by omega) ho; omega
    · rw [if_neg h]
      refine ⟨h1, fun i hi ho => ?_⟩
      by_cases e : i = k
      · subst e; exact absurd ho h
      · exact h2 i (by omega) ho
theorem own_high {q : List Bid} {rd : List Int} {l : List Nat} (h : SaleL q rd l) (v : Int) : ownL q v l ≤ highTo q v q.length := by
  obtain ⟨h1, h2⟩ := highTo_ge q v q.length
  by_cases hn : NoneOf q v l
  · rw [own_none hn]; exact h1
  · unfold NoneOf at hn
    obtain ⟨i, hi⟩ := Classical.not_forall.1 hn
    obtain ⟨hi, ho⟩ := Classical.not_imp.1 hi
    have ho' := Classical.not_not.1 ho
    rw [own_at h hi ho']
    exact h2 i (h.lt hi) ho'
/-- Without a buyer's bids the best bring less by at most the greatest of them. -/
theorem without_high {q : List Bid} {rd : List Int} {v m : Int} {l : List Nat} (h : WinIs q rd l) (hm : MostIs q rd (NoneOf q v) m) : bringsL q l - highTo q v q.length ≤ m := by
  have h1 := hm.ge _ (h.sale.sub _) (noneOf_others q v l)
  have h2 := own_others q v l
  have h3 := own_high h.sale v
  unfold othersL at h2
  omega

/-! Buyers with other numbers. -/
theorem sale_who {q r : List Bid} (g : Int → Int) (hl : ∀ j : Nat, r[j]?.map (fun x : Bid => (x.who, x.bar)) = q[j]?.map fun x : Bid => (g x.who, x.bar)) (hg : ∀ a ∈ q, ∀ b ∈ q, g a.who = g b.who → a.who = b.who) {rd : List Int} {l : List Nat} : SaleL r rd l ↔ SaleL q rd l := by
  have hget : ∀ {j : Nat} {x : Bid}, r[j]? = some x → ∃ y, q[j]? = some y ∧ x.who = g y.who ∧ x.bar = y.bar := fun {j x} hx => by
    have := hl j
    rw [hx] at this
    cases hy : q[j]? with
    | none => rw [hy] at this; cases this
    | some y => rw [hy] at this; simp only [Option.map_some, Option.some.injEq, Prod.mk.injEq] at this; exact ⟨y, rfl, this.1, this.2⟩
  have hget2 : ∀ {j : Nat} {y : Bid}, q[j]? = some y → ∃ x, r[j]? = some x ∧ x.who = g y.who ∧ x.bar = y.bar := fun {j y} hy => by
    have := hl j
    rw [hy] at this
    cases hx : r[j]? with
    | none => rw [hx] at this; cases this
    | some x => rw [hx] at this; simp only [Option.map_some, Option.some.injEq, Prod.mk.injEq] at this; exact ⟨x, rfl, this.1, this.2⟩
  constructor
  · intro hs
    refine ⟨hs.up, fun i hi => ?_, fun i hi j hj hne a b ha hb => ?_⟩
    · obtain ⟨x, hx, hr⟩ := hs.rdy i hi
      obtain ⟨y, hy, _, h2⟩ := hget hx
      exact ⟨y, hy, by unfold readyB at hr ⊢; rw [← h2]; exact hr⟩
    · obtain ⟨a', ha', w1, b1⟩ := hget2 ha
      obtain ⟨b', hb', w2, b2⟩ := hget2 hb
      have := apart_iff.1 (hs.ap i hi j hj hne a' b' ha' hb')
      rw [apart_iff]
      exact ⟨fun e => this.1 (by rw [w1, w2, e]), by rw [← b1, ← b2]; exact this.2⟩
  · intro hs
    refine ⟨hs.up, fun i hi => ?_, fun i hi j hj hne a b ha hb => ?_⟩
    · obtain ⟨y, hy, hr⟩ := hs.rdy i hi
      obtain ⟨x, hx, _, h2⟩ := hget2 hy
      exact ⟨x, hx, by unfold readyB at hr ⊢; rw [h2]; exact hr⟩
    · obtain ⟨a', ha', w1, b1⟩ := hget ha
      obtain ⟨b', hb', w2, b2⟩ := hget hb
      have := apart_iff.1 (hs.ap i hi j hj hne a' b' ha' hb')
      rw [apart_iff]
      refine ⟨fun e => this.1 (hg a' (List.mem_of_getElem? ha') b' (List.mem_of_getElem? hb') (by rw [← w1, ← w2, e])), by rw [b1, b2]; exact this.2⟩
theorem brings_same {q r : List Bid} (h : ∀ j : Nat, r[j]?.map (fun x : Bid => x.pay) = q[j]?.map fun x : Bid => x.pay) (l : List Nat) : bringsL r l = bringsL q l := by
  unfold bringsL
  congr 1
  apply List.map_congr_left
  intro j _
  have := h j
  unfold payAt
  cases hr : r[j]? <;> cases hq : q[j]? <;> rw [hr, hq] at this <;> simp at this ⊢
  exact this
theorem win_who {q r : List Bid} (g : Int → Int) (hl : ∀ j : Nat, r[j]?.map (fun x : Bid => (x.who, x.bar)) = q[j]?.map fun x : Bid => (g x.who, x.bar)) (hg : ∀ a ∈ q, ∀ b ∈ q, g a.who = g b.who → a.who = b.who) (hp : ∀ j : Nat, r[j]?.map (fun x : Bid => x.pay) = q[j]?.map fun x : Bid => x.pay) {rd : List Int} {l : List Nat} (h : WinIs q rd l) : WinIs r rd l :=
  ⟨(sale_who g hl hg).2 h.sale, fun l' hl' => by rw [brings_same hp, brings_same hp]; exact h.ge l' ((sale_who g hl hg).1 hl'), fun l' hl' he => h.first l' ((sale_who g hl hg).1 hl') (by rw [← brings_same hp, ← brings_same hp]; exact he)⟩
/-- Turned by as many, buyers stay apart. -/
theorem turn_inj {n a b d : Int} (ha : 0 ≤ a ∧ a < n) (hb : 0 ≤ b ∧ b < n) (h : (a + d) % n = (b + d) % n) : a = b := by
  have h2 : (a - b) % n = 0 := by
    have := Int.emod_emod_of_dvd (a + d - (b + d)) (Int.dvd_refl n)
    have e : (a + d - (b + d)) % n = ((a + d) % n - (b + d) % n) % n := Int.sub_emod ..
    rw [show a - b = a + d - (b + d) by omega, e, h]; simp
  obtain ⟨k, hk⟩ := Int.dvd_of_emod_eq_zero h2
  by_cases hk0 : k = 0
  · subst hk0; simp at hk; omega
  · exfalso
    by_cases hp : 0 < k
    · have := Int.mul_le_mul_of_nonneg_left (show (1 : Int) ≤ k by omega) (show 0 ≤ n by omega)
      rw [Int.mul_one] at this; omega
    · have := Int.mul_le_mul_of_nonneg_left (show k ≤ (-1 : Int) by omega) (show 0 ≤ n by omega)
      rw [Int.mul_neg, Int.mul_one] at this; omega

/-! Bids in another order. -/
theorem perm_of_subN : ∀ (l m : List Nat), l.Nodup → (∀ x ∈ l, x ∈ m) → m.length ≤ l.length → l.Perm m
  | [], m, _, _, h => by
    have : m = [] := List.length_eq_zero_iff.1 (by simpa using h)
    rw [this]
  | x :: l, m, hn, hs, h => by
    obtain ⟨a, b, rfl⟩ := List.append_of_mem (hs x (by simp))
    have hnd := List.nodup_cons.1 hn
    refine (List.Perm.cons x (perm_of_subN l (a ++ b) hnd.2 (fun y hy => ?_) ?_)).trans List.perm_middle.symm
    · have hm := hs y (by simp [hy])
      have hne : y ≠ x := fun e => hnd.1 (e ▸ hy)
      simp only [List.mem_append, List.mem_cons] at hm ⊢
      rcases hm with hm | hm | hm
      · exact .inl hm
      · exact absurd hm hne
      · exact .inr hm
    · simp only [List.length_append, List.length_cons] at h ⊢; omega
theorem len_of_subN : ∀ (l m : List Nat), l.Nodup → (∀ x ∈ l, x ∈ m) → l.length ≤ m.length
  | [], m, _, _ => Nat.zero_le _
  | x :: l, m, hn, hs => by
    obtain ⟨a, b, rfl⟩ := List.append_of_mem (hs x (by simp))
    have hnd := List.nodup_cons.1 hn
    have := len_of_subN l (a ++ b) hnd.2 fun y hy => by
      have hm := hs y (by simp [hy])
      have hne : y ≠ x := fun e => hnd.1 (e ▸ hy)
      simp only [List.mem_append, List.mem_cons] at hm ⊢
      rcases hm with hm | hm | hm
      · exact .inl hm
      · exact absurd hm hne
      · exact .inr hm
    simp only [List.length_append, List.length_cons] at this ⊢
    omega
/-- The bids r are those of q, in the order f. -/
structure TurnedQ (q r : List Bid) (f : Nat → Nat) : Prop where
  len : r.length = q.length
  at_ : ∀ i, i < r.length → r[i]? = q[f i]?
  lt : ∀ i, i < r.length → f i < q.length
  inj : ∀ i j, i < r.length → j < r.length → f i = f j → i = j
def imageL (f : Nat → Nat) (n : Nat) (l : List Nat) : List Nat := (List.range n).filter fun j => decide (∃ i ∈ l, f i = j)
theorem mem_image {f : Nat → Nat} {n : Nat} {l : List Nat} {j : Nat} : j ∈ imageL f n l ↔ j < n ∧ ∃ i ∈ l, f i = j := by
  unfold imageL; rw [List.mem_filter, List.mem_range, decide_eq_true_eq]
theorem image_perm {q r : List Bid} {f : Nat → Nat} (h : TurnedQ q r f) {l : List Nat} (hn : l.Nodup) (hl : ∀ i ∈ l, i < r.length) : (l.map f).Perm (imageL f q.length l) := by
  have h1 : (l.map f).Nodup := by
    unfold List.Nodup at hn ⊢
    rw [List.pairwise_map]
    exact hn.imp_of_mem fun {a b} ha hb hab e => hab (h.inj a b (hl a ha) (hl b hb) e)
  have h2 : (imageL f q.length l).Nodup := (List.nodup_range.filter _)
  refine perm_of_subN _ _ h1 (fun x hx => ?_) ?_
  · obtain ⟨i, hi, rfl⟩ := List.mem_map.1 hx
    exact mem_image.2 ⟨h.lt i (hl i hi), i, hi, rfl⟩
  · exact len_of_subN _ _ h2 fun x hx => by
      obtain ⟨_, i, hi, rfl⟩ := mem_image.1 hx
      exact List.mem_map.2 ⟨i, hi, rfl⟩
theorem sum_permI {l m : List Int} (h : l.Perm m) : l.sum = m.sum := by
  induction h with
  | nil => rfl
  | cons x _ ih => simp [ih]
  | swap x y l => simp only [List.sum_cons]; omega
  | trans _ _ ih1 ih2 => rw [ih1, ih2]
theorem turned_sale {q r : List Bid} {f : Nat → Nat} (h : TurnedQ q r f) {rd : List Int} {l : List Nat} (hs : SaleL r rd l) : SaleL q rd (imageL f q.length l) ∧ bringsL q (imageL f q.length l) = bringsL r l := by
  refine ⟨⟨List.pairwise_lt_range.filter _, fun j hj => ?_, fun j hj k hk hne a b ha hb => ?_⟩, ?_⟩
  · obtain ⟨_, i, hi, rfl⟩ := mem_image.1 hj
    obtain ⟨b, hb, hr⟩ := hs.rdy i hi
    exact ⟨b, by rw [← h.at_ i (hs.lt hi)]; exact hb, hr⟩
  · obtain ⟨_, i, hi, rfl⟩ := mem_image.1 hj
    obtain ⟨_, i', hi', rfl⟩ := mem_image.1 hk
    exact hs.ap i hi i' hi' (fun e => hne (by rw [e])) a b (by rw [h.at_ i (hs.lt hi)]; exact ha) (by rw [h.at_ i' (hs.lt hi')]; exact hb)
  · have hp := image_perm h hs.nodup fun i hi => hs.lt hi
    unfold bringsL
    rw [← sum_permI (hp.map (payAt q)), List.map_map]
    congr 1
    apply List.map_congr_left
    intro i hi
    show payAt q (f i) = payAt r i
    unfold payAt
    rw [h.at_ i (hs.lt hi)]
/-- In another order the best bring the same; with a bid, with that bid. -/
theorem turned_le {q r : List Bid} {f : Nat → Nat} (h : TurnedQ q r f) {rd : List Int} {P Q : List Nat → Prop} (hPQ : ∀ l, SaleL r rd l → P l → Q (imageL f q.length l)) {n m : Int} (hn : MostIs r rd P n) (hm : MostIs q rd Q m) (hm1 : -1 ≤ m) : n ≤ m := by
  rcases hn.at_ with ⟨h1, _⟩ | ⟨l, h1, h2, h3⟩
  · omega
  · obtain ⟨h4, h5⟩ := turned_sale h h1
    rw [← h3, ← h5]
    exact hm.ge _ h4 (hPQ l h1 h2)

/-! Sales in plain words: the specification's list of all sales; the first best of a list. -/
/-- b is the first best one of the first k. -/
structure BestTo (S : List (List Nat)) (f : List Nat → Int) (k : Nat) (b : List Nat) : Prop where
  mem : ∃ j, j < max 1 k ∧ S[j]? = some b
  ge : ∀ (j : Nat) (l : List Nat), j < k → S[j]? = some l → f l ≤ f b
  first : ∀ (j : Nat) (l : List Nat), j < k → S[j]? = some l → f l = f b → ¬ aheadP l b
theorem BestTo.zero {S : List (List Nat)} {f : List Nat → Int} {b : List Nat} (h : S[0]? = some b) : BestTo S f 0 b := ⟨⟨0, by omega, h⟩, fun j _ hj => absurd hj (by omega), fun j _ hj => absurd hj (by omega)⟩
theorem BestTo.next {S : List (List Nat)} {f : List Nat → Int} {k : Nat} {b l : List Nat} (hS : S.Pairwise aheadP) (h : BestTo S f k b) (hl : S[k]? = some l) : BestTo S f (k + 1) (if f b < f l then l else b) := by
  by_cases hlt : f b < f l
  · rw [if_pos hlt]
    refine ⟨⟨k, by omega, hl⟩, fun j m hj hm => ?_, fun j m hj hm he => ?_⟩
    · by_cases e : j = k
      · subst e; rw [hl] at hm; cases hm; exact Int.le_refl _
      · have := h.ge j m (by omega) hm; omega
    · by_cases e : j = k
      · subst e; rw [hl] at hm; cases hm; exact ahead_irr _
      · have := h.ge j m (by omega) hm; omega
  · rw [if_neg hlt]
    obtain ⟨j0, h1, h2⟩ := h.mem
    refine ⟨⟨j0, by omega, h2⟩, fun j m hj hm => ?_, fun j m hj hm he ha => ?_⟩
    · by_cases e : j = k
      · subst e; rw [hl] at hm; cases hm; omega
      · exact h.ge j m (by omega) hm
    · by_cases e : j = k
      · subst e
        rw [hl] at hm; cases hm
        by_cases e0 : j0 = j
        · subst e0; rw [hl] at h2; cases h2; exact ahead_irr _ ha
        · have hlt2 : j0 < j := by omega
          obtain ⟨k1, k2⟩ := List.getElem?_eq_some_iff.1 h2
          obtain ⟨k3, k4⟩ := List.getElem?_eq_some_iff.1 hl
          have := List.pairwise_iff_getElem.1 hS j0 j k1 k3 hlt2
          rw [k2, k4] at this
          exact ahead_irr _ (ahead_trans this ha)
      · exact h.first j m (by omega) hm he ha
/-- If the list holds all sales, its first best one is what the winners are. -/
theorem BestTo.win {q : List Bid} {rd : List Int} {S : List (List Nat)} {b : List Nat} (h : BestTo S (bringsL q) S.length b) (hS : ∀ l, l ∈ S ↔ SaleL q rd l) : WinIs q rd b := by
  obtain ⟨j0, _, h2⟩ := h.mem
  refine ⟨(hS b).1 (List.mem_of_getElem? h2), fun l hl => ?_, fun l hl => ?_⟩
  · obtain ⟨j, hj⟩ := List.getElem?_of_mem ((hS l).2 hl)
    exact h.ge j l (List.getElem?_eq_some_iff.1 hj).1 hj
  · obtain ⟨j, hj⟩ := List.getElem?_of_mem ((hS l).2 hl)
    exact h.first j l (List.getElem?_eq_some_iff.1 hj).1 hj
/-- How many bids a sale has at most. -/
theorem len_of_subI : ∀ (l m : List Int), l.Nodup → (∀ x ∈ l, x ∈ m) → l.length ≤ m.length
  | [], m, _, _ => Nat.zero_le _
  | x :: l, m, hn, hs => by
    obtain ⟨a, b, rfl⟩ := List.append_of_mem (hs x (by simp))
    have hnd := List.nodup_cons.1 hn
    have := len_of_subI l (a ++ b) hnd.2 fun y hy => by
      have hm := hs y (by simp [hy])
      have hne : y ≠ x := fun e => hnd.1 (e ▸ hy)
      simp only [List.mem_append, List.mem_cons] at hm ⊢
      rcases hm with hm | hm | hm
      · exact .inl hm
      · exact absurd hm hne
      · exact .inr hm
    simp only [List.length_append, List.length_cons] at this ⊢
    omega
def whoAt (q : List Bid) (i : Nat) : Int := match q[i]? with | some b => b.who | none => -1
def barAt (q : List Bid) (i : Nat) : Int := match q[i]? with | some b => b.bar.getD 0 (-1) | none => -1
theorem nodup_map_of {f : Nat → Int} : ∀ {l : List Nat}, l.Nodup → (∀ i ∈ l, ∀ j ∈ l, i ≠ j → f i ≠ f j) → (l.map f).Nodup := fun {l} hn h => by
  unfold List.Nodup at hn ⊢
  rw [List.pairwise_map]
  exact hn.imp_of_mem fun {a b} ha hb hab => h a ha b hb hab
theorem sale_buyers {q : List Bid} {rd : List Int} {l : List Nat} {n : Nat} (h : SaleL q rd l) (hq : ∀ b ∈ q, 0 ≤ b.who ∧ b.who < n) : l.length ≤ n := by
  have hn : (l.map (whoAt q)).Nodup := nodup_map_of h.nodup fun i hi j hj hne e => by
    obtain ⟨a, ha, _⟩ := h.rdy i hi
    obtain ⟨b, hb, _⟩ := h.rdy j hj
    unfold whoAt at e
    rw [ha, hb] at e
    exact hne (h.one hi hj ha hb e)
  have := len_of_subI _ ((List.range n).map fun v : Nat => (v : Int)) hn fun x hx => by
    obtain ⟨i, hi, rfl⟩ := List.mem_map.1 hx
    obtain ⟨a, ha, _⟩ := h.rdy i hi
    have := hq a (List.mem_of_getElem? ha)
    unfold whoAt
    rw [ha]
    exact List.mem_map.2 ⟨a.who.toNat, List.mem_range.2 (by omega), (show ((a.who.toNat : Nat) : Int) = a.who by omega)⟩
  simpa using this
theorem sale_ready {q : List Bid} {rd : List Int} {l : List Nat} (h : SaleL q rd l) (hq : ∀ b ∈ q, b.bar ≠ []) : l.length ≤ rd.length := by
  have hat : ∀ {i : Nat} {a : Bid}, q[i]? = some a → barAt q i ∈ a.bar := fun {i a} ha => by
    have hne := hq a (List.mem_of_getElem? ha)
    unfold barAt
    rw [ha]
    match hb : a.bar, hne with
    | x :: r, _ => simp [hb]
  have hn : (l.map (barAt q)).Nodup := nodup_map_of h.nodup fun i hi j hj hne e => by
    obtain ⟨a, ha, _⟩ := h.rdy i hi
    obtain ⟨b, hb, _⟩ := h.rdy j hj
    have h1 := hat ha
    have h2 := hat hb
    rw [← e] at h2
    exact (apart_iff.1 (h.ap i hi j hj hne a b ha hb)).2 _ h1 h2
  have := len_of_subI _ rd hn fun x hx => by
    obtain ⟨i, hi, rfl⟩ := List.mem_map.1 hx
    obtain ⟨a, ha, hr⟩ := h.rdy i hi
    exact ready_iff.1 hr _ (hat ha)
  simpa using this
/-- How many of the best sales have a bid, against how many there are: 0, all, or some. -/
theorem won_count {q : List Bid} {rd : List Int} {i : Nat} {w1 w0 n : Int} (h1 : MostIs q rd (fun l => i ∈ l) w1) (h0 : MostIs q rd (fun l => ¬ i ∈ l) w0) (hn : MostIs q rd (fun _ => True) n) :
    (wonN w1 w0 = 1 ↔ ∀ l, SaleL q rd l → bringsL q l = n → i ∈ l) ∧ (wonN w1 w0 = 2 ↔ ∀ l, SaleL q rd l → bringsL q l = n → ¬ i ∈ l) := by
  have e := hn.unique (most_two h1 h0 (without_nonneg h0))
  have g0 := without_nonneg h0
  constructor
  · constructor
    · intro h l hl hb
      exact (won_sure h1 h0 hn hl hb).1 h
    · intro h
      unfold wonN
      by_cases hlt : w0 < w1
      · exact if_pos hlt
      · exfalso
        rcases h0.at_ with ⟨k, _⟩ | ⟨l, k1, k2, k3⟩
        · omega
        · exact k2 (h l k1 (by omega))
  · constructor
    · intro h l hl hb
      exact (won_sure h1 h0 hn hl hb).2 h
    · intro h
      have hlt : w1 < w0 := by
        apply Int.not_le.1
        intro hle
        rcases h1.at_ with ⟨k, _⟩ | ⟨l, k1, k2, k3⟩
        · omega
        · exact h l k1 (by omega) k2
      unfold wonN
      rw [if_neg (by omega), if_pos hlt]

/-! Sales in plain words: the specification's list of all sales, built row by row. -/
/-- What follows the last number of a list. -/
def nextN (f : List Nat) : Nat := match f.getLast? with | none => 0 | some x => x + 1
theorem nextN_nil : nextN [] = 0 := rfl
theorem nextN_snoc (f : List Nat) (x : Nat) : nextN (f ++ [x]) = x + 1 := by unfold nextN; simp
theorem snoc_indN {P : List Nat → Prop} (h0 : P []) (h1 : ∀ l x, P l → P (l ++ [x])) (l : List Nat) : P l := by
  rw [← List.reverse_reverse l]
  induction l.reverse with
  | nil => exact h0
  | cons x r ih => rw [List.reverse_cons]; exact h1 _ _ ih
theorem next_le {f : List Nat} {b : Nat} (hp : f.Pairwise (· < ·)) : nextN f ≤ b ↔ ∀ x ∈ f, x < b := by
  revert hp
  refine snoc_indN (P := fun f => f.Pairwise (· < ·) → (nextN f ≤ b ↔ ∀ x ∈ f, x < b)) (fun _ => by simp [nextN_nil]) (fun g y _ hp => ?_) f
  rw [nextN_snoc]
  rw [List.pairwise_append] at hp
  constructor
  · intro h x hx
    rcases List.mem_append.1 hx with hx | hx
    · have := hp.2.2 x hx y (by simp); omega
    · simp at hx; omega
  · intro h
    have := h y (by simp)
    omega
/-- All ascending lists of n more numbers below nb that begin with some. -/
def combN (nb : Nat) : Nat → List Nat → List (List Nat)
  | 0, f => [f]
  | n + 1, f => (List.range (nb - nextN f)).flatMap fun j : Nat => combN nb n (f ++ [nextN f + j])
theorem combN_pre {nb : Nat} : ∀ (n : Nat) (f p : List Nat), p ∈ combN nb n f → ∃ t, p = f ++ t ∧ t.length = n
  | 0, f, p, h => ⟨[], by simpa [combN] using h, rfl⟩
  | n + 1, f, p, h => by
    simp only [combN, List.mem_flatMap] at h
    obtain ⟨j, _, h⟩ := h
    obtain ⟨t, rfl, ht⟩ := combN_pre n _ p h
    exact ⟨(nextN f + j) :: t, by simp, by simp [ht]⟩
theorem up_snoc {f : List Nat} {b : Nat} (hp : f.Pairwise (· < ·)) (h : ∀ x ∈ f, x < b) : (f ++ [b]).Pairwise (· < ·) := by
  rw [List.pairwise_append]
  exact ⟨hp, by simp, fun x hx y hy => by simp at hy; subst hy; exact h x hx⟩
theorem mem_combN {nb : Nat} : ∀ (n : Nat) (f p : List Nat), f.Pairwise (· < ·) → (∀ x ∈ f, x < nb) → (p ∈ combN nb n f ↔ ∃ t, p = f ++ t ∧ t.length = n ∧ p.Pairwise (· < ·) ∧ ∀ x ∈ p, x < nb)
  | 0, f, p, hf, hb => by
    simp only [combN, List.mem_singleton]
    constructor
    · rintro rfl; exact ⟨[], by simp, rfl, hf, hb⟩
    · rintro ⟨t, rfl, h, _⟩; rw [List.length_eq_zero_iff.1 h, List.append_nil]
  | n + 1, f, p, hf, hb => by
    simp only [combN, List.mem_flatMap, List.mem_range]
    constructor
    · rintro ⟨j, hj, h⟩
      have hlt := (next_le hf (b := nextN f + j)).1 (by omega)
      obtain ⟨t, rfl, h1, h2, h3⟩ := (mem_combN n _ p (up_snoc hf hlt) (fun x hx => by
        rcases List.mem_append.1 hx with hx | hx
        · exact hb x hx
        · simp at hx; omega)).1 h
      exact ⟨(nextN f + j) :: t, by simp, by simp [h1], h2, h3⟩
    · rintro ⟨t, rfl, h1, h2, h3⟩
      match t, h1 with
      | y :: t, h1 =>
        have hy := h3 y (by simp)
        have e : f ++ y :: t = (f ++ [y]) ++ t := by simp
        have hlt : ∀ x ∈ f, x < y := fun x hx => (List.pairwise_append.1 h2).2.2 x hx y (by simp)
        have hle := (next_le hf).2 hlt
        have ey : nextN f + (y - nextN f) = y := by omega
        refine ⟨y - nextN f, by omega, ?_⟩
        rw [ey]
        refine (mem_combN n _ _ (up_snoc hf hlt) (fun x hx => by
          rcases List.mem_append.1 hx with hx | hx
          · exact hb x hx
          · simp at hx; omega)).2 ⟨t, e, by simpa using h1, h2, h3⟩
theorem combN_iff {nb n : Nat} {p : List Nat} : p ∈ combN nb n [] ↔ p.length = n ∧ p.Pairwise (· < ·) ∧ ∀ x ∈ p, x < nb := by
  rw [mem_combN n [] p (by simp) (by simp)]
  constructor
  · rintro ⟨t, rfl, h1, h2, h3⟩; exact ⟨by simpa using h1, h2, h3⟩
  · rintro ⟨h1, h2, h3⟩; exact ⟨p, by simp, h1, h2, h3⟩
theorem earlierN_pre : ∀ (f : List Nat) {a b : List Nat}, earlierN (f ++ a) (f ++ b) = earlierN a b
  | [], _, _ => rfl
  | x :: f, a, b => by simp only [List.cons_append, earlierN, if_true]; exact earlierN_pre f
theorem combN_sorted {nb : Nat} : ∀ (n : Nat) (f : List Nat), (combN nb n f).Pairwise fun a b => earlierN a b = true
  | 0, f => by simp [combN]
  | n + 1, f => by
    unfold combN
    rw [List.pairwise_flatMap]
    refine ⟨fun j _ => combN_sorted n _, ?_⟩
    refine List.pairwise_lt_range.imp fun {a b} hab x hx y hy => ?_
    obtain ⟨t, rfl, _⟩ := combN_pre n _ _ hx
    obtain ⟨u, rfl, _⟩ := combN_pre n _ _ hy
    rw [List.append_assoc, List.append_assoc, earlierN_pre]
    simp only [List.singleton_append, earlierN]
    rw [if_neg (by omega)]
    simp; omega
/-- The sales of fewer bids, and those among the first i lists of as many. -/
structure SpecTo (q : List Bid) (rd : List Int) (many i : Nat) (out : List (List Nat)) : Prop where
  up : out.Pairwise aheadP
  mem : ∀ l, l ∈ out ↔ SaleL q rd l ∧ (l.length < many ∨ ∃ j, j < i ∧ (combN q.length many [])[j]? = some l)
theorem SpecTo.one (q : List Bid) (rd : List Int) : SpecTo q rd 1 0 [[]] := by
  refine ⟨by simp, fun l => ?_⟩
  rw [List.mem_singleton]
  constructor
  · rintro rfl; exact ⟨SaleL.nil q rd, .inl (by simp)⟩
  · rintro ⟨_, h | ⟨j, hj, _⟩⟩
    · exact List.length_eq_zero_iff.1 (by omega)
    · omega
theorem SpecTo.no {q : List Bid} {rd : List Int} {many i : Nat} {out : List (List Nat)} {l : List Nat} (h : SpecTo q rd many i out) (hl : (combN q.length many [])[i]? = some l) (hn : ¬ SaleL q rd l) : SpecTo q rd many (i + 1) out := by
  refine ⟨h.up, fun m => ?_⟩
  rw [h.mem]
  constructor
  · rintro ⟨h1, h2 | ⟨j, h2, h3⟩⟩
    · exact ⟨h1, .inl h2⟩
    · exact ⟨h1, .inr ⟨j, by omega, h3⟩⟩
  · rintro ⟨h1, h2 | ⟨j, h2, h3⟩⟩
    · exact ⟨h1, .inl h2⟩
    · by_cases e : j = i
      · subst e; rw [hl] at h3; cases h3; exact absurd h1 hn
      · exact ⟨h1, .inr ⟨j, by omega, h3⟩⟩
theorem SpecTo.yes {q : List Bid} {rd : List Int} {many i : Nat} {out : List (List Nat)} {l : List Nat} (h : SpecTo q rd many i out) (hl : (combN q.length many [])[i]? = some l) (hs : SaleL q rd l) : SpecTo q rd many (i + 1) (out ++ [l]) := by
  obtain ⟨hil, hie⟩ := List.getElem?_eq_some_iff.1 hl
  have hlen := (combN_iff.1 (List.mem_of_getElem? hl)).1
  refine ⟨?_, fun m => ?_⟩
  · rw [List.pairwise_append]
    refine ⟨h.up, by simp, fun a ha b hb => ?_⟩
    rw [List.mem_singleton.1 hb]
    obtain ⟨_, h2 | ⟨j, h2, h3⟩⟩ := (h.mem a).1 ha
    · exact .inl (by omega)
    · obtain ⟨hjl, hje⟩ := List.getElem?_eq_some_iff.1 h3
      have := List.pairwise_iff_getElem.1 (combN_sorted (nb := q.length) many []) j i hjl hil h2
      rw [hje, hie] at this
      exact .inr ⟨(combN_iff.1 (List.mem_of_getElem? h3)).1.trans hlen.symm, this⟩
  · rw [List.mem_append, h.mem, List.mem_singleton]
    constructor
    · rintro (⟨h1, h2 | ⟨j, h2, h3⟩⟩ | rfl)
      · exact ⟨h1, .inl h2⟩
      · exact ⟨h1, .inr ⟨j, by omega, h3⟩⟩
      · exact ⟨hs, .inr ⟨i, by omega, hl⟩⟩
    · rintro ⟨h1, h2 | ⟨j, h2, h3⟩⟩
      · exact .inl ⟨h1, .inl h2⟩
      · by_cases e : j = i
        · subst e; rw [hl] at h3; cases h3; exact .inr rfl
        · exact .inl ⟨h1, .inr ⟨j, by omega, h3⟩⟩
theorem SpecTo.row {q : List Bid} {rd : List Int} {many : Nat} {out : List (List Nat)} (h : SpecTo q rd many (combN q.length many []).length out) : SpecTo q rd (many + 1) 0 out := by
  refine ⟨h.up, fun l => ?_⟩
  rw [h.mem]
  constructor
  · rintro ⟨h1, h2 | ⟨j, h2, h3⟩⟩
    · exact ⟨h1, .inl (by omega)⟩
    · have := (combN_iff.1 (List.mem_of_getElem? h3)).1
      exact ⟨h1, .inl (by omega)⟩
  · rintro ⟨h1, h2 | ⟨j, h2, _⟩⟩
    · by_cases e : l.length < many
      · exact ⟨h1, .inl e⟩
      · obtain ⟨j, hj⟩ := List.getElem?_of_mem (combN_iff.2 ⟨show l.length = many by omega, h1.up, fun x hx => h1.lt hx⟩)
        exact ⟨h1, .inr ⟨j, (List.getElem?_eq_some_iff.1 hj).1, hj⟩⟩
    · omega
/-- Behind the last row all sales are there. -/
theorem SpecTo.all {q : List Bid} {rd : List Int} {many n : Nat} {out : List (List Nat)} (h : SpecTo q rd many 0 out) (hm : n < many ∨ rd.length < many) (hw : ∀ b ∈ q, 0 ≤ b.who ∧ b.who < n) (hb : ∀ b ∈ q, b.bar ≠ []) : ∀ l, l ∈ out ↔ SaleL q rd l := fun l => by
  rw [h.mem]
  constructor
  · exact fun h => h.1
  · intro hs
    have h1 := sale_buyers hs hw
    have h2 := sale_ready hs hb
    exact ⟨hs, .inl (by omega)⟩

/-! Sales in plain words: sets of buyers and barrels as bits; the loop of brings. -/
/-- u is the set of the numbers l, all below 4. -/
structure MaskOf (l : List Int) (u : Nat) : Prop where
  lt : u < 16
  bit : ∀ i : Nat, i < 4 → (u.testBit i = true ↔ (i : Int) ∈ l)
theorem or_bit4 : ∀ u, u < 16 → ∀ j, j < 4 → (u ||| (1 <<< j)) < 16 ∧ ∀ i, i < 4 → (u ||| (1 <<< j)).testBit i = (u.testBit i || decide (i = j)) := by decide +kernel
theorem or_two4 : ∀ u, u < 16 → ∀ v, v < 16 → (u ||| v) < 16 ∧ ∀ i, i < 4 → (u ||| v).testBit i = (u.testBit i || v.testBit i) := by decide +kernel
theorem and_two4 : ∀ u, u < 16 → ∀ v, v < 16 → (decide (u &&& v = 0)) = ((List.range 4).all fun i => !(u.testBit i && v.testBit i)) := by decide +kernel
theorem MaskOf.nil : MaskOf [] 0 := ⟨by omega, by simp⟩
theorem MaskOf.snoc {l : List Int} {u j : Nat} (h : MaskOf l u) (hj : j < 4) : MaskOf (l ++ [(j : Int)]) (u ||| (1 <<< j)) := by
  obtain ⟨h1, h2⟩ := or_bit4 u h.lt j hj
  refine ⟨h1, fun i hi => ?_⟩
  rw [h2 i hi, Bool.or_eq_true, decide_eq_true_eq, h.bit i hi, List.mem_append, List.mem_singleton]
  constructor
  · rintro (h | h)
    · exact .inl h
    · exact .inr (by omega)
  · rintro (h | h)
    · exact .inl h
    · exact .inr (by omega)
theorem MaskOf.app {l m : List Int} {u v : Nat} (h : MaskOf l u) (k : MaskOf m v) : MaskOf (l ++ m) (u ||| v) := by
  obtain ⟨h1, h2⟩ := or_two4 u h.lt v k.lt
  refine ⟨h1, fun i hi => ?_⟩
  rw [h2 i hi, Bool.or_eq_true, h.bit i hi, k.bit i hi, List.mem_append]
/-- No number is in both sets. -/
theorem mask_apart {l m : List Int} {u v : Nat} (h : MaskOf l u) (k : MaskOf m v) (hm : ∀ x ∈ m, 0 ≤ x ∧ x < 4) : u &&& v = 0 ↔ ∀ x ∈ m, x ∉ l := by
  have e := and_two4 u h.lt v k.lt
  rw [← decide_eq_true_iff (p := u &&& v = 0), e, List.all_eq_true]
  constructor
  · intro ha x hx hl
    obtain ⟨i, rfl⟩ : ∃ i : Nat, x = i := ⟨x.toNat, by have := hm x hx; omega⟩
    have hi : i < 4 := by have := hm _ hx; omega
    have := ha i (List.mem_range.2 hi)
    rw [(h.bit i hi).2 hl, (k.bit i hi).2 hx] at this
    cases this
  · intro ha i hi
    have hi4 := List.mem_range.1 hi
    cases hu : u.testBit i
    · rfl
    · cases hv : v.testBit i
      · rfl
      · exact absurd ((h.bit i hi4).1 hu) (ha _ ((k.bit i hi4).1 hv))
theorem andnot4 : ∀ m, m < 16 → ∀ r, r < 16 → (decide (m &&& (15 - r) = 0)) = ((List.range 4).all fun i => !m.testBit i || r.testBit i) := by decide +kernel
/-- Each number of one set is in the other one. -/
theorem mask_within {l m : List Int} {u v : Nat} (h : MaskOf l u) (k : MaskOf m v) (hm : ∀ x ∈ m, 0 ≤ x ∧ x < 4) : v &&& (15 - u) = 0 ↔ ∀ x ∈ m, x ∈ l := by
  have e := andnot4 v k.lt u h.lt
  rw [← decide_eq_true_iff (p := v &&& (15 - u) = 0), e, List.all_eq_true]
  constructor
  · intro ha x hx
    obtain ⟨i, rfl⟩ : ∃ i : Nat, x = i := ⟨x.toNat, by have := hm x hx; omega⟩
    have hi : i < 4 := by have := hm _ hx; omega
    have := ha i (List.mem_range.2 hi)
    rw [(k.bit i hi).2 hx] at this
    exact (h.bit i hi).1 (by simpa using this)
  · intro ha i hi
    have hi4 := List.mem_range.1 hi
    cases hv : v.testBit i
    · rfl
    · rw [(h.bit i hi4).2 (ha _ ((k.bit i hi4).1 hv))]; rfl
def barsOf (q : List Bid) (p : List Nat) : List Int := p.flatMap fun j => match q[j]? with | some b => b.bar | none => []
theorem barsOf_app (q : List Bid) (p : List Nat) {i : Nat} {b : Bid} (h : q[i]? = some b) : barsOf q (p ++ [i]) = barsOf q p ++ b.bar := by
  unfold barsOf
  rw [List.flatMap_append]
  simp [h]
theorem mem_barsOf {q : List Bid} {p : List Nat} {x : Int} : x ∈ barsOf q p ↔ ∃ j ∈ p, ∃ b, q[j]? = some b ∧ x ∈ b.bar := by
  unfold barsOf
  rw [List.mem_flatMap]
  constructor
  · rintro ⟨j, hj, hx⟩
    cases hb : q[j]? with
    | none => rw [hb] at hx; simp at hx
    | some b => rw [hb] at hx; exact ⟨j, hj, b, hb, hx⟩
  · rintro ⟨j, hj, b, hb, hx⟩
    exact ⟨j, hj, by rw [hb]; exact hx⟩
/-- Behind the bids p of a sale: its buyers u, its barrels v, and what it brings. -/
structure BrTo (q : List Bid) (rd : List Int) (p : List Nat) (u v : Nat) (n : Int) : Prop where
  sale : SaleL q rd p
  bu : MaskOf (p.map (whoAt q)) u
  bv : MaskOf (barsOf q p) v
  val : n = bringsL q p
theorem BrTo.nil (q : List Bid) (rd : List Int) : BrTo q rd [] 0 0 0 := ⟨SaleL.nil q rd, MaskOf.nil, MaskOf.nil, rfl⟩
theorem BrTo.iff {q : List Bid} {rd : List Int} {p : List Nat} {u v r m w i : Nat} {n : Int} {b : Bid} (h : BrTo q rd p u v n) (hi : ∀ j ∈ p, j < i) (hb : q[i]? = some b) (hw : b.who = w) (hw4 : w < 4) (hm : MaskOf b.bar m) (hb4 : ∀ x ∈ b.bar, 0 ≤ x ∧ x < 4) (hr : MaskOf rd r) :
    SaleL q rd (p ++ [i]) ↔ u.testBit w = false ∧ v &&& m = 0 ∧ m &&& (15 - r) = 0 := by
  rw [sale_snoc h.sale hi hb, ready_iff, mask_within hr hm hb4, mask_apart h.bv hm hb4]
  have hu : u.testBit w = false ↔ ∀ j ∈ p, ∀ a, q[j]? = some a → a.who ≠ b.who := by
    rw [← Bool.not_eq_true, h.bu.bit w hw4, List.mem_map]
    constructor
    · intro hn j hj a ha e
      exact hn ⟨j, hj, by unfold whoAt; rw [ha]; show a.who = (w : Int); rw [e, hw]⟩
    · rintro hn ⟨j, hj, e⟩
      obtain ⟨a, ha, _⟩ := h.sale.rdy j hj
      unfold whoAt at e
      rw [ha] at e
      exact hn j hj a ha ((show a.who = (w : Int) from e).trans hw.symm)
  rw [hu]
  constructor
  · rintro ⟨h1, h2⟩
    refine ⟨fun j hj a ha => (apart_iff.1 (h2 j hj a ha)).1, fun x hx hxl => ?_, h1⟩
    obtain ⟨j, hj, a, ha, hxa⟩ := mem_barsOf.1 hxl
    exact (apart_iff.1 (h2 j hj a ha)).2 x hxa hx
  · rintro ⟨h1, h2, h3⟩
    exact ⟨h3, fun j hj a ha => apart_iff.2 ⟨h1 j hj a ha, fun x hxa hxb => h2 x hxb (mem_barsOf.2 ⟨j, hj, a, ha, hxa⟩)⟩⟩
theorem BrTo.next {q : List Bid} {rd : List Int} {p : List Nat} {u v m w i : Nat} {n : Int} {b : Bid} (h : BrTo q rd p u v n) (hs : SaleL q rd (p ++ [i])) (hb : q[i]? = some b) (hw : b.who = w) (hw4 : w < 4) (hm : MaskOf b.bar m) : BrTo q rd (p ++ [i]) (u ||| (1 <<< w)) (v ||| m) (n + b.pay) := by
  refine ⟨hs, ?_, ?_, ?_⟩
  · rw [List.map_append]
    have : [i].map (whoAt q) = [(w : Int)] := by simp [whoAt, hb, hw]
    rw [this]
    exact h.bu.snoc hw4
  · rw [barsOf_app q p hb]; exact h.bv.app hm
  · rw [brings_app, h.val, brings_cons, brings_nil, payAt_some hb]; omega

end Go.Proofs.Ytmconopnplgcfaa
