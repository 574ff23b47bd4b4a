import Derived.RangeFuncNested
import Derived.RangeFuncLeaves
import Derived.RangeFuncCalls
import Derived.WalkKit
import Derived.Deep.Quiet
import Derived.Deep.QuietTactic
import Derived.OrdersIn
import Derived.BigQuiet
namespace Go.Proofs.YtmbcpmnigggbaabGreat
/-! Sales in plain words: bids, sales, what they bring, the best ones, the winners. -/
structure Bid where
  who : Int
  bar : List Int
  pay : Int
/-- Two bids can be in one sale. -/
def apartB (a b : Bid) : Bool := decide (a.who ≠ b.who) && a.bar.all fun n => decide (n ∉ b.bar)
theorem apart_iff {a b : Bid} : apartB a b = true ↔ a.who ≠ b.who ∧ ∀ n ∈ a.bar, n ∉ b.bar := by
  unfold apartB
  rw [Bool.and_eq_true, decide_eq_true_eq, List.all_eq_true]
  exact and_congr Iff.rfl ⟨fun h n hn => of_decide_eq_true (h n hn), fun h n hn => decide_eq_true (h n hn)⟩
theorem apart_symm {a b : Bid} (h : apartB a b = true) : apartB b a = true := by
  rw [apart_iff] at h ⊢
  exact ⟨fun e => h.1 e.symm, fun n hn hm => h.2 n hm hn⟩
def readyB (rd : List Int) (b : Bid) : Bool := b.bar.all fun n => decide (n ∈ rd)
theorem ready_iff {rd : List Int} {b : Bid} : readyB rd b = true ↔ ∀ n ∈ b.bar, n ∈ rd := by
  unfold readyB
  rw [List.all_eq_true]
  exact ⟨fun h n hn => of_decide_eq_true (h n hn), fun h n hn => decide_eq_true (h n hn)⟩
/-- A sale: bids, strictly ascending, all of whose barrels are ready, each two of which can be in one sale. -/
structure SaleL (q : List Bid) (rd : List Int) (l : List Nat) : Prop where
  up : l.Pairwise (· < ·)
  rdy : ∀ i ∈ l, ∃ b, q[i]? = some b ∧ readyB rd b = true
  ap : ∀ i ∈ l, ∀ j ∈ l, i ≠ j → ∀ a b, q[i]? = some a → q[j]? = some b → apartB a b = true
theorem SaleL.nil (q : List Bid) (rd : List Int) : SaleL q rd [] := ⟨.nil, fun _ h => by simp at h, fun _ h => by simp at h⟩
theorem SaleL.nodup {q : List Bid} {rd : List Int} {l : List Nat} (h : SaleL q rd l) : l.Nodup := h.up.imp fun hab e => by omega
theorem SaleL.lt {q : List Bid} {rd : List Int} {l : List Nat} (h : SaleL q rd l) {i : Nat} (hi : i ∈ l) : i < q.length := by
  obtain ⟨b, hb, _⟩ := h.rdy i hi
  exact (List.getElem?_eq_some_iff.1 hb).1
/-- Some of a sale's bids are a sale. -/
theorem SaleL.sub {q : List Bid} {rd : List Int} {l : List Nat} (h : SaleL q rd l) (p : Nat → Bool) : SaleL q rd (l.filter p) :=
  ⟨h.up.filter _, fun i hi => h.rdy i (List.mem_filter.1 hi).1, fun i hi j hj => h.ap i (List.mem_filter.1 hi).1 j (List.mem_filter.1 hj).1⟩
/-- A buyer has one bid of a sale at most. -/
theorem SaleL.one {q : List Bid} {rd : List Int} {l : List Nat} (h : SaleL q rd l) {i j : Nat} {a b : Bid} (hi : i ∈ l) (hj : j ∈ l) (ha : q[i]? = some a) (hb : q[j]? = some b) (hw : a.who = b.who) : i = j := by
  by_cases e : i = j
  · exact e
  · exact absurd hw (apart_iff.1 (h.ap i hi j hj e a b ha hb)).1
def payAt (q : List Bid) (i : Nat) : Int := match q[i]? with | some b => b.pay | none => 0
theorem payAt_some {q : List Bid} {i : Nat} {b : Bid} (h : q[i]? = some b) : payAt q i = b.pay := by unfold payAt; rw [h]
def bringsL (q : List Bid) (l : List Nat) : Int := (l.map (payAt q)).sum
theorem brings_nil (q : List Bid) : bringsL q [] = 0 := rfl
theorem brings_cons (q : List Bid) (i : Nat) (l : List Nat) : bringsL q (i :: l) = payAt q i + bringsL q l := by simp [bringsL]
theorem brings_app (q : List Bid) (l m : List Nat) : bringsL q (l ++ m) = bringsL q l + bringsL q m := by simp [bringsL]
/-- What a sale brings is what some of its bids bring, and what the others do. -/
theorem brings_split (q : List Bid) (p : Nat → Bool) : ∀ l : List Nat, bringsL q l = bringsL q (l.filter p) + bringsL q (l.filter fun i => !p i)
  | [] => rfl
  | i :: l => by
    have ih := brings_split q p l
    rw [brings_cons]
    cases h : p i
    · rw [List.filter_cons_of_neg (by simp [h]), List.filter_cons_of_pos (by simp [h]), brings_cons]; omega
    · rw [List.filter_cons_of_pos h, List.filter_cons_of_neg (by simp [h]), brings_cons]; omega
theorem brings_nonneg {q : List Bid} (hq : ∀ b ∈ q, 0 ≤ b.pay) : ∀ l : List Nat, 0 ≤ bringsL q l
  | [] => by simp [bringsL]
  | i :: l => by
    have := brings_nonneg hq l
    rw [brings_cons]
    have : 0 ≤ payAt q i := by
      unfold payAt
      cases h : q[i]? with
      | none => simp
      | some b => exact hq b (List.mem_of_getElem? h)
    omega
theorem brings_none {q : List Bid} {p : Nat → Bool} {l : List Nat} (h : ∀ j ∈ l, ¬ p j = true) : bringsL q (l.filter p) = 0 := by
  rw [List.filter_eq_nil_iff.2 h]; rfl

/-! The best of those sales for which something holds. -/
/-- n is what the best of them bring; below 0: there is none. -/
structure MostIs (q : List Bid) (rd : List Int) (P : List Nat → Prop) (n : Int) : Prop where
  ge : ∀ l, SaleL q rd l → P l → bringsL q l ≤ n
  at_ : (n = -1 ∧ ∀ l, SaleL q rd l → ¬ P l) ∨ ∃ l, SaleL q rd l ∧ P l ∧ bringsL q l = n
theorem MostIs.unique {q : List Bid} {rd : List Int} {P : List Nat → Prop} {n m : Int} (h : MostIs q rd P n) (k : MostIs q rd P m) : n = m := by
  rcases h.at_ with ⟨h1, h2⟩ | ⟨l, h1, h2, h3⟩ <;> rcases k.at_ with ⟨k1, k2⟩ | ⟨l', k1, k2, k3⟩
  · omega
  · exact absurd k2 (h2 l' k1)
  · exact absurd h2 (k2 l h1)
  · have := h.ge l' k1 k2
    have := k.ge l h1 h2
    omega
/-- Less is asked for: the best do not bring less. -/
theorem MostIs.mono {q : List Bid} {rd : List Int} {P Q : List Nat → Prop} {n m : Int} (h : MostIs q rd P n) (k : MostIs q rd Q m) (hPQ : ∀ l, SaleL q rd l → P l → Q l) (hm : -1 ≤ m) : n ≤ m := by
  rcases h.at_ with ⟨h1, _⟩ | ⟨l, h1, h2, h3⟩
  · omega
  · rw [← h3]; exact k.ge l h1 (hPQ l h1 h2)
/-- One list of numbers comes ahead of another one: it is shorter, or as long and less. -/
def earlierN : List Nat → List Nat → Bool
  | x :: a, y :: b => if x = y then earlierN a b else decide (x < y)
  | _, _ => false
def aheadP (p b : List Nat) : Prop := p.length < b.length ∨ (p.length = b.length ∧ earlierN p b = true)
theorem earlierN_irr : ∀ (a : List Nat), earlierN a a = false
  | [] => rfl
  | x :: a => by simp only [earlierN, if_true]; exact earlierN_irr a
theorem earlierN_total : ∀ (a b : List Nat), a.length = b.length → a = b ∨ earlierN a b = true ∨ earlierN b a = true
  | [], [], _ => .inl rfl
  | x :: a, y :: b, h => by
    by_cases e : x = y
    · subst e
      rcases earlierN_total a b (by simpa using h) with h | h | h
      · exact .inl (by rw [h])
      · exact .inr (.inl (by simp [earlierN, h]))
      · exact .inr (.inr (by simp [earlierN, h]))
    · by_cases hl : x < y
      · exact .inr (.inl (by simp [earlierN, e, hl]))
      · exact .inr (.inr (by simp only [earlierN]; rw [if_neg (fun h => e h.symm)]; exact decide_eq_true (by omega)))
theorem earlierN_trans : ∀ {a b c : List Nat}, earlierN a b = true → earlierN b c = true → earlierN a c = true
  | [], _, _, h, _ => by simp [earlierN] at h
  | _ :: _, [], _, h, _ => by simp [earlierN] at h
  | _ :: _, _ :: _, [], _, h => by simp [earlierN] at h
  | x :: a, y :: b, z :: c, h1, h2 => by
    simp only [earlierN] at h1 h2 ⊢
    by_cases e1 : x = y
    · subst e1
      rw [if_pos rfl] at h1
      by_cases e2 : x = z
      · subst e2
        rw [if_pos rfl] at h2 ⊢
        exact earlierN_trans h1 h2
      · rw [if_neg e2] at h2 ⊢; exact h2
    · rw [if_neg e1, decide_eq_true_eq] at h1
      by_cases e2 : y = z
      · subst e2
        rw [if_neg e1]; exact decide_eq_true h1
      · rw [if_neg e2, decide_eq_true_eq] at h2
        rw [if_neg (by omega)]; exact decide_eq_true (by omega)
theorem ahead_irr (a : List Nat) : ¬ aheadP a a := by
  rintro (h | ⟨_, h⟩)
  · omega
  · rw [earlierN_irr] at h; cases h
theorem ahead_total (a b : List Nat) : a = b ∨ aheadP a b ∨ aheadP b a := by
  by_cases h : a.length = b.length
  · rcases earlierN_total a b h with h1 | h1 | h1
    · exact .inl h1
    · exact .inr (.inl (.inr ⟨h, h1⟩))
    · exact .inr (.inr (.inr ⟨h.symm, h1⟩))
  · by_cases hl : a.length < b.length
    · exact .inr (.inl (.inl hl))
    · exact .inr (.inr (.inl (by omega)))
theorem ahead_trans {a b c : List Nat} (h1 : aheadP a b) (h2 : aheadP b c) : aheadP a c := by
  rcases h1 with h1 | ⟨h1, h1'⟩ <;> rcases h2 with h2 | ⟨h2, h2'⟩
  · exact .inl (by omega)
  · exact .inl (by omega)
  · exact .inl (by omega)
  · exact .inr ⟨by omega, earlierN_trans h1' h2'⟩
/-- The winners: the first best sale. -/
structure WinIs (q : List Bid) (rd : List Int) (l : List Nat) : Prop where
  sale : SaleL q rd l
  ge : ∀ l', SaleL q rd l' → bringsL q l' ≤ bringsL q l
  first : ∀ l', SaleL q rd l' → bringsL q l' = bringsL q l → ¬ aheadP l' l
theorem WinIs.unique {q : List Bid} {rd : List Int} {l m : List Nat} (h : WinIs q rd l) (k : WinIs q rd m) : l = m := by
  have e : bringsL q l = bringsL q m := Int.le_antisymm (k.ge l h.sale) (h.ge m k.sale)
  rcases ahead_total l m with h1 | h1 | h1
  · exact h1
  · exact absurd h1 (k.first l h.sale e)
  · exact absurd h1 (h.first m k.sale e.symm)
theorem WinIs.most {q : List Bid} {rd : List Int} {l : List Nat} (h : WinIs q rd l) : MostIs q rd (fun _ => True) (bringsL q l) :=
  ⟨fun l' h' _ => h.ge l' h', .inr ⟨l, h.sale, trivial, rfl⟩⟩

/-! Sales in plain words: what a buyer pays; another price; the need of a bid. -/
/-- Is a bid one of a buyer? -/
def ownP (q : List Bid) (v : Int) (i : Nat) : Bool := match q[i]? with | some b => decide (b.who = v) | none => false
theorem own_some {q : List Bid} {v : Int} {i : Nat} {b : Bid} (h : q[i]? = some b) : ownP q v i = decide (b.who = v) := by unfold ownP; rw [h]
/-- A sale without bids of a buyer. -/
def NoneOf (q : List Bid) (v : Int) (l : List Nat) : Prop := ∀ i ∈ l, ¬ ownP q v i = true
theorem noneOf_others (q : List Bid) (v : Int) (l : List Nat) : NoneOf q v (l.filter fun i => !ownP q v i) := fun i hi => by
  have := (List.mem_filter.1 hi).2
  simpa using this
/-- What the other winners bring. -/
def othersL (q : List Bid) (v : Int) (l : List Nat) : Int := bringsL q (l.filter fun i => !ownP q v i)
def ownL (q : List Bid) (v : Int) (l : List Nat) : Int := bringsL q (l.filter (ownP q v))
theorem own_others (q : List Bid) (v : Int) (l : List Nat) : bringsL q l = ownL q v l + othersL q v l := brings_split q (ownP q v) l
theorem own_none {q : List Bid} {v : Int} {l : List Nat} (h : NoneOf q v l) : ownL q v l = 0 := brings_none h
/-- What a buyer pays lies between nothing and the winning bid; m: the most without the buyer. -/
theorem pays_bd {q : List Bid} {rd : List Int} {v m : Int} {l : List Nat} (h : WinIs q rd l) (hm : MostIs q rd (NoneOf q v) m) : 0 ≤ m - othersL q v l ∧ m - othersL q v l ≤ ownL q v l ∧ m ≤ bringsL q l := by
  have h1 := hm.ge _ (h.sale.sub _) (noneOf_others q v l)
  have h2 : m ≤ bringsL q l := by
    rcases hm.at_ with ⟨_, h3⟩ | ⟨l', h3, _, h4⟩
    · exact absurd (noneOf_others q v l) (h3 _ (h.sale.sub _))
    · rw [← h4]; exact h.ge l' h3
  have h3 := own_others q v l
  unfold othersL at h3 ⊢
  omega
/-- Without a winning bid nothing is paid. -/
theorem pays_none {q : List Bid} {rd : List Int} {v m : Int} {l : List Nat} (h : WinIs q rd l) (hm : MostIs q rd (NoneOf q v) m) (hn : NoneOf q v l) : m - othersL q v l = 0 := by
  have := pays_bd h hm
  have := own_none hn
  omega
/-- One more bid: the best do not bring less. -/
theorem sale_more {q : List Bid} (b : Bid) {rd : List Int} {l : List Nat} (hs : SaleL q rd l) : SaleL (q ++ [b]) rd l ∧ bringsL (q ++ [b]) l = bringsL q l := by
  have hat : ∀ i ∈ l, (q ++ [b])[i]? = q[i]? := fun i hi => List.getElem?_append_left (hs.lt hi)
  refine ⟨⟨hs.up, fun i hi => by rw [hat i hi]; exact hs.rdy i hi, fun i hi j hj hne x y hx hy => ?_⟩, ?_⟩
  · rw [hat i hi] at hx; rw [hat j hj] at hy
    exact hs.ap i hi j hj hne x y hx hy
  · unfold bringsL
    congr 1
    apply List.map_congr_left
    intro i hi
    unfold payAt
    rw [hat i hi]
/-! Sales in plain words: sets of bids as the bits of a number; the loops over all sets. -/
/-- The numbers below n that a set holds. -/
def bitsL (n m : Nat) : List Nat := (List.range n).filter fun i => m.testBit i
theorem mem_bits {n m i : Nat} : i ∈ bitsL n m ↔ i < n ∧ m.testBit i = true := by
  unfold bitsL; rw [List.mem_filter, List.mem_range]
theorem bits_up (n m : Nat) : (bitsL n m).Pairwise (· < ·) := List.pairwise_lt_range.filter _
theorem bits_len (n m : Nat) : (bitsL n m).length ≤ n := Nat.le_trans (List.length_filter_le _ _) (by simp)
theorem bits_succ (n m : Nat) : bitsL (n + 1) m = bitsL n m ++ if m.testBit n = true then [n] else [] := by
  unfold bitsL
  rw [List.range_succ, List.filter_append]
  congr 1
  cases h : m.testBit n <;> simp [h]
theorem bit_add8 : ∀ k, k < 8 → ∀ st, st < 2 ^ k → (st + 2 ^ k).testBit k = true ∧ st.testBit k = false ∧ ∀ i, i < k → (st + 2 ^ k).testBit i = st.testBit i := by decide +kernel
theorem bits_ext {n m m' : Nat} (h : ∀ i, i < n → m.testBit i = m'.testBit i) : bitsL n m = bitsL n m' := by
  unfold bitsL
  apply List.filter_congr
  intro i hi
  exact h i (List.mem_range.1 hi)
/-- Each ascending list of numbers below n is a set. -/
theorem bits_all : ∀ n, n ≤ 8 → ∀ l : List Nat, l.Pairwise (· < ·) → (∀ i ∈ l, i < n) → ∃ m, m < 2 ^ n ∧ bitsL n m = l
  | 0, _, l, _, h => by
    have : l = [] := by
      cases l with
      | nil => rfl
      | cons x l => exact absurd (h x (by simp)) (by omega)
    subst this
    exact ⟨0, by simp, rfl⟩
  | n + 1, hn, l, hp, h => by
    by_cases hm : n ∈ l
    · obtain ⟨a, b, rfl⟩ := List.append_of_mem hm
      rw [List.pairwise_append] at hp
      have hb : b = [] := by
        cases b with
        | nil => rfl
        | cons x b =>
          have h1 := List.pairwise_cons.1 hp.2.1
          have := h1.1 x (by simp)
          have := h x (by simp)
          omega
      subst hb
      obtain ⟨m, h1, h2⟩ := bits_all n (by omega) a hp.1 fun i hi => hp.2.2 i hi n (by simp)
      obtain ⟨k1, _, k3⟩ := bit_add8 n (by omega) m h1
      refine ⟨m + 2 ^ n, by rw [Nat.pow_succ]; omega, ?_⟩
      rw [bits_succ, if_pos k1, bits_ext k3, h2]
    · obtain ⟨m, h1, h2⟩ := bits_all n (by omega) l hp fun i hi => by
        have := h i hi
        have : i ≠ n := fun e => hm (e ▸ hi)
        omega
      obtain ⟨_, k2, _⟩ := bit_add8 n (by omega) m h1
      refine ⟨m, by rw [Nat.pow_succ]; omega, ?_⟩
      rw [bits_succ, if_neg (by simp [k2]), List.append_nil, h2]
/-- One more bid of a sale. -/
theorem sale_snoc {q : List Bid} {rd : List Int} {l : List Nat} {i : Nat} {b : Bid} (h : SaleL q rd l) (hi : ∀ j ∈ l, j < i) (hb : q[i]? = some b) : SaleL q rd (l ++ [i]) ↔ readyB rd b = true ∧ ∀ j ∈ l, ∀ a, q[j]? = some a → apartB a b = true := by
  constructor
  · intro hs
    refine ⟨?_, fun j hj a ha => hs.ap j (by simp [hj]) i (by simp) (by have := hi j hj; omega) a b ha hb⟩
    obtain ⟨c, hc, hr⟩ := hs.rdy i (by simp)
    rw [hb] at hc; cases hc
    exact hr
  · rintro ⟨h1, h2⟩
    refine ⟨?_, fun j hj => ?_, fun j hj k hk hne x y hx hy => ?_⟩
    · rw [List.pairwise_append]
      exact ⟨h.up, by simp, fun j hj k hk => by simp at hk; subst hk; exact hi j hj⟩
    · rcases List.mem_append.1 hj with hj | hj
      · exact h.rdy j hj
      · simp at hj; subst hj; exact ⟨b, hb, h1⟩
    · rcases List.mem_append.1 hj with hj1 | hj1 <;> rcases List.mem_append.1 hk with hk1 | hk1
      · exact h.ap j hj1 k hk1 hne x y hx hy
      · rw [List.mem_singleton.1 hk1, hb] at hy; cases hy
        exact h2 j hj1 x hx
      · rw [List.mem_singleton.1 hj1, hb] at hx; cases hx
        exact apart_symm (h2 k hk1 y hy)
      · exact absurd ((List.mem_singleton.1 hj1).trans (List.mem_singleton.1 hk1).symm) hne
theorem sale_pre {q : List Bid} {rd : List Int} {l m : List Nat} (h : SaleL q rd (l ++ m)) : SaleL q rd l :=
  ⟨(List.pairwise_append.1 h.up).1, fun i hi => h.rdy i (by simp [hi]), fun i hi j hj => h.ap i (by simp [hi]) j (by simp [hj])⟩
/-- n is what the best of the first k sets bring. -/
structure MostTo (q : List Bid) (rd : List Int) (P : List Nat → Prop) (k : Nat) (n : Int) : Prop where
  ge : ∀ m, m < k → SaleL q rd (bitsL q.length m) → P (bitsL q.length m) → bringsL q (bitsL q.length m) ≤ n
  at_ : (n = -1 ∧ ∀ m, m < k → SaleL q rd (bitsL q.length m) → ¬ P (bitsL q.length m)) ∨ ∃ m, m < k ∧ SaleL q rd (bitsL q.length m) ∧ P (bitsL q.length m) ∧ bringsL q (bitsL q.length m) = n
theorem MostTo.zero (q : List Bid) (rd : List Int) (P : List Nat → Prop) : MostTo q rd P 0 (-1) := ⟨fun m h => absurd h (by omega), .inl ⟨rfl, fun m h => absurd h (by omega)⟩⟩
theorem MostTo.skip {q : List Bid} {rd : List Int} {P : List Nat → Prop} {k : Nat} {n : Int} (h : MostTo q rd P k n) (hn : SaleL q rd (bitsL q.length k) → ¬ P (bitsL q.length k)) : MostTo q rd P (k + 1) n := by
  refine ⟨fun m hm h1 h2 => ?_, ?_⟩
  · by_cases e : m = k
    · subst e; exact absurd h2 (hn h1)
    · exact h.ge m (by omega) h1 h2
  · rcases h.at_ with ⟨e, h2⟩ | ⟨m, h1, h2⟩
    · refine .inl ⟨e, fun m hm h1 => ?_⟩
      by_cases e : m = k
      · subst e; exact hn h1
      · exact h2 m (by omega) h1
    · exact .inr ⟨m, by omega, h2⟩
theorem MostTo.take {q : List Bid} {rd : List Int} {P : List Nat → Prop} {k : Nat} {n : Int} (h : MostTo q rd P k n) (hs : SaleL q rd (bitsL q.length k)) (hp : P (bitsL q.length k)) (h0 : 0 ≤ bringsL q (bitsL q.length k)) : MostTo q rd P (k + 1) (max n (bringsL q (bitsL q.length k))) := by
  refine ⟨fun m hm h1 h2 => ?_, .inr ?_⟩
  · by_cases e : m = k
    · subst e; omega
    · have := h.ge m (by omega) h1 h2; omega
  · by_cases hle : bringsL q (bitsL q.length k) ≤ n
    · rcases h.at_ with ⟨e, _⟩ | ⟨m, h1, h2, h3, h4⟩
      · omega
      · exact ⟨m, by omega, h2, h3, by omega⟩
    · exact ⟨k, by omega, hs, hp, by omega⟩
theorem MostTo.all {q : List Bid} {rd : List Int} {P : List Nat → Prop} {n : Int} (hq : q.length ≤ 8) (h : MostTo q rd P (2 ^ q.length) n) : MostIs q rd P n := by
  have hset : ∀ l, SaleL q rd l → ∃ m, m < 2 ^ q.length ∧ bitsL q.length m = l := fun l hl => bits_all q.length hq l hl.up fun i hi => hl.lt hi
  refine ⟨fun l hl hp => ?_, ?_⟩
  · obtain ⟨m, h1, rfl⟩ := hset l hl
    exact h.ge m h1 hl hp
  · rcases h.at_ with ⟨e, h2⟩ | ⟨m, h1, h2, h3, h4⟩
    · refine .inl ⟨e, fun l hl => ?_⟩
      obtain ⟨m, h1, rfl⟩ := hset l hl
      exact h2 m h1 hl
    · exact .inr ⟨_, h2, h3, h4⟩
/-- The first best one of the first k sets. -/
structure WinTo (q : List Bid) (rd : List Int) (k : Nat) (l : List Nat) : Prop where
  sale : SaleL q rd l
  ge : ∀ m, m < k → SaleL q rd (bitsL q.length m) → bringsL q (bitsL q.length m) ≤ bringsL q l
  first : ∀ m, m < k → SaleL q rd (bitsL q.length m) → bringsL q (bitsL q.length m) = bringsL q l → ¬ aheadP (bitsL q.length m) l
theorem WinTo.skip {q : List Bid} {rd : List Int} {k : Nat} {l : List Nat} (h : WinTo q rd k l) (hn : SaleL q rd (bitsL q.length k) → bringsL q (bitsL q.length k) < bringsL q l ∨ (bringsL q (bitsL q.length k) = bringsL q l ∧ ¬ aheadP (bitsL q.length k) l)) : WinTo q rd (k + 1) l := by
  refine ⟨h.sale, fun m hm h1 => ?_, fun m hm h1 h2 => ?_⟩
  · by_cases e : m = k
    · subst e; rcases hn h1 with h2 | h2 <;> omega
    · exact h.ge m (by omega) h1
  · by_cases e : m = k
    · subst e; rcases hn h1 with h3 | h3
      · omega
      · exact h3.2
    · exact h.first m (by omega) h1 h2
theorem WinTo.take {q : List Bid} {rd : List Int} {k : Nat} {l : List Nat} (h : WinTo q rd k l) (hs : SaleL q rd (bitsL q.length k)) (hb : bringsL q l < bringsL q (bitsL q.length k) ∨ (bringsL q (bitsL q.length k) = bringsL q l ∧ aheadP (bitsL q.length k) l)) : WinTo q rd (k + 1) (bitsL q.length k) := by
  refine ⟨hs, fun m hm h1 => ?_, fun m hm h1 h2 h3 => ?_⟩
  · by_cases e : m = k
    · subst e; exact Int.le_refl _
    · have := h.ge m (by omega) h1
      rcases hb with hb | hb <;> omega
  · by_cases e : m = k
    · subst e; exact ahead_irr _ h3
    · have h4 := h.ge m (by omega) h1
      rcases hb with hb | ⟨hb, hb2⟩
      · omega
      · exact h.first m (by omega) h1 (by omega) (ahead_trans h3 hb2)
theorem WinTo.all {q : List Bid} {rd : List Int} {l : List Nat} (hq : q.length ≤ 8) (h : WinTo q rd (2 ^ q.length) l) : WinIs q rd l := by
  have hset : ∀ l, SaleL q rd l → ∃ m, m < 2 ^ q.length ∧ bitsL q.length m = l := fun l hl => bits_all q.length hq l hl.up fun i hi => hl.lt hi
  refine ⟨h.sale, fun l' hl => ?_, fun l' hl => ?_⟩
  · obtain ⟨m, h1, rfl⟩ := hset l' hl
    exact h.ge m h1 hl
  · obtain ⟨m, h1, rfl⟩ := hset l' hl
    exact h.first m h1 hl
theorem bits_zero (n : Nat) : bitsL n 0 = [] := by
  unfold bitsL
  rw [List.filter_eq_nil_iff]
  intro i _
  simp
/-- The empty set is the first one, a sale that brings nothing. -/
theorem WinTo.one (q : List Bid) (rd : List Int) : WinTo q rd 1 [] := by
  refine ⟨SaleL.nil q rd, fun m hm _ => ?_, fun m hm _ _ => ?_⟩
  · obtain rfl : m = 0 := by omega
    rw [bits_zero]; exact Int.le_refl _
  · obtain rfl : m = 0 := by omega
    rw [bits_zero]; exact ahead_irr _

/-! Won, and Need. -/
/-- Surely 1, never 2, perhaps 3, by the best with a bid and without it. -/
def wonN (w1 w0 : Int) : Int := if w0 < w1 then 1 else if w1 < w0 then 2 else 3
/-! Sales in plain words: the specification's list of all sales; the first best of a list. -/
/-- b is the first best one of the first k. -/
structure BestTo (S : List (List Nat)) (f : List Nat → Int) (k : Nat) (b : List Nat) : Prop where
  mem : ∃ j, j < max 1 k ∧ S[j]? = some b
  ge : ∀ (j : Nat) (l : List Nat), j < k → S[j]? = some l → f l ≤ f b
  first : ∀ (j : Nat) (l : List Nat), j < k → S[j]? = some l → f l = f b → ¬ aheadP l b
theorem BestTo.zero {S : List (List Nat)} {f : List Nat → Int} {b : List Nat} (h : S[0]? = some b) : BestTo S f 0 b := ⟨⟨0, by omega, h⟩, fun j _ hj => absurd hj (by omega), fun j _ hj => absurd hj (by omega)⟩
theorem BestTo.next {S : List (List Nat)} {f : List Nat → Int} {k : Nat} {b l : List Nat} (hS : S.Pairwise aheadP) (h : BestTo S f k b) (hl : S[k]? = some l) : BestTo S f (k + 1) (if f b < f l then l else b) := by
  by_cases hlt : f b < f l
  · rw [if_pos hlt]
    refine ⟨⟨k, by omega, hl⟩, fun j m hj hm => ?_, fun j m hj hm he => ?_⟩
    · by_cases e : j = k
      · subst e; rw [hl] at hm; cases hm; exact Int.le_refl _
      · have := h.ge j m (by omega) hm; omega
    · by_cases e : j = k
      · subst e; rw [hl] at hm; cases hm; exact ahead_irr _
      · have := h.ge j m (by omega) hm; omega
  · rw [if_neg hlt]
    obtain ⟨j0, h1, h2⟩ := h.mem
    refine ⟨⟨j0, by omega, h2⟩, fun j m hj hm => ?_, fun j m hj hm he ha => ?_⟩
    · by_cases e : j = k
      · subst e; rw [hl] at hm; cases hm; omega
      · exact h.ge j m (by omega) hm
    · by_cases e : j = k
      · subst e
        rw [hl] at hm; cases hm
        by_cases e0 : j0 = j
        · subst e0; rw [hl] at h2; cases h2; exact ahead_irr _ ha
        · have hlt2 : j0 < j := by omega
          obtain ⟨k1, k2⟩ := List.getElem?_eq_some_iff.1 h2
          obtain ⟨k3, k4⟩ := List.getElem?_eq_some_iff.1 hl
          have := List.pairwise_iff_getElem.1 hS j0 j k1 k3 hlt2
          rw [k2, k4] at this
          exact ahead_irr _ (ahead_trans this ha)
      · exact h.first j m (by omega) hm he ha
/-- How many bids a sale has at most. -/
theorem len_of_subI : ∀ (l m : List Int), l.Nodup → (∀ x ∈ l, x ∈ m) → l.length ≤ m.length
  | [], m, _, _ => Nat.zero_le _
  | x :: l, m, hn, hs => by
    obtain ⟨a, b, rfl⟩ := List.append_of_mem (hs x (by simp))
    have hnd := List.nodup_cons.1 hn
    have := len_of_subI l (a ++ b) hnd.2 fun y hy => by
      have hm := hs y (by simp [hy])
      have hne : y ≠ x := fun e => hnd.1 (e ▸ hy)
      simp only [List.mem_append, List.mem_cons] at hm ⊢
      rcases hm with hm | hm | hm
      · exact .inl hm
      · exact absurd hm hne
      · exact .inr hm
    simp only [List.length_append, List.length_cons] at this ⊢
    omega
def whoAt (q : List Bid) (i : Nat) : Int := match q[i]? with | some b => b.who | none => -1
def barAt (q : List Bid) (i : Nat) : Int := match q[i]? with | some b => b.bar.getD 0 (-1) | none => -1
theorem nodup_map_of {f : Nat → Int} : ∀ {l : List Nat}, l.Nodup → (∀ i ∈ l, ∀ j ∈ l, i ≠ j → f i ≠ f j) → (l.map f).Nodup := fun {l} hn h => by
  unfold List.Nodup at hn ⊢
  rw [List.pairwise_map]
  exact hn.imp_of_mem fun {a b} ha hb hab => h a ha b hb hab
theorem sale_buyers {q : List Bid} {rd : List Int} {l : List Nat} {n : Nat} (h : SaleL q rd l) (hq : ∀ b ∈ q, 0 ≤ b.who ∧ b.who < n) : l.length ≤ n := by
  have hn : (l.map (whoAt q)).Nodup := nodup_map_of h.nodup fun i hi j hj hne e => by
    obtain ⟨a, ha, _⟩ := h.rdy i hi
    obtain ⟨b, hb, _⟩ := h.rdy j hj
    unfold whoAt at e
    rw [ha, hb] at e
    exact hne (h.one hi hj ha hb e)
  have := len_of_subI _ ((List.range n).map fun v : Nat => (v : Int)) hn fun x hx => by
    obtain ⟨i, hi, rfl⟩ := List.mem_map.1 hx
    obtain ⟨a, ha, _⟩ := h.rdy i hi
    have := hq a (List.mem_of_getElem? ha)
    unfold whoAt
    rw [ha]
    exact List.mem_map.2 ⟨a.who.toNat, List.mem_range.2 (by omega), (show ((a.who.toNat : Nat) : Int) = a.who by omega)⟩
  simpa using this
theorem sale_ready {q : List Bid} {rd : List Int} {l : List Nat} (h : SaleL q rd l) (hq : ∀ b ∈ q, b.bar ≠ []) : l.length ≤ rd.length := by
  have hat : ∀ {i : Nat} {a : Bid}, q[i]? = some a → barAt q i ∈ a.bar := fun {i a} ha => by
    have hne := hq a (List.mem_of_getElem? ha)
    unfold barAt
    rw [ha]
    match hb : a.bar, hne with
    | x :: r, _ => simp [hb]
  have hn : (l.map (barAt q)).Nodup := nodup_map_of h.nodup fun i hi j hj hne e => by
    obtain ⟨a, ha, _⟩ := h.rdy i hi
    obtain ⟨b, hb, _⟩ := h.rdy j hj
    have h1 := hat ha
    have h2 := hat hb
    rw [← e] at h2
    exact (apart_iff.1 (h.ap i hi j hj hne a b ha hb)).2 _ h1 h2
  have := len_of_subI _ rd hn fun x hx => by
    obtain ⟨i, hi, rfl⟩ := List.mem_map.1 hx
    obtain ⟨a, ha, hr⟩ := h.rdy i hi
    exact ready_iff.1 hr _ (hat ha)
  simpa using this
/-! Sales in plain words: the specification's list of all sales, built row by row. -/
/-- What follows the last number of a list. -/
def nextN (f : List Nat) : Nat := match f.getLast? with | none => 0 | some x => x + 1
theorem nextN_nil : nextN [] = 0 := rfl
theorem nextN_snoc (f : List Nat) (x : Nat) : nextN (f ++ [x]) = x + 1 := by unfold nextN; simp
theorem snoc_indN {P : List Nat → Prop} (h0 : P []) (h1 : ∀ l x, P l → P (l ++ [x])) (l : List Nat) : P l := by
  rw [← List.reverse_reverse l]
  induction l.reverse with
  | nil => exact h0
  | cons x r ih => rw [List.reverse_cons]; exact h1 _ _ ih
theorem next_le {f : List Nat} {b : Nat} (hp : f.Pairwise (· < ·)) : nextN f ≤ b ↔ ∀ x ∈ f, x < b := by
  revert hp
  refine snoc_indN (P := fun f => f.Pairwise (· < ·) → (nextN f ≤ b ↔ ∀ x ∈ f, x < b)) (fun _ => by simp [nextN_nil]) (fun g y _ hp => ?_) f
  rw [nextN_snoc]
  rw [List.pairwise_append] at hp
  constructor
  · intro h x hx
    rcases List.mem_append.1 hx with hx | hx
    · have := hp.2.2 x hx y (by simp); omega
    · simp at hx; omega
  · intro h
    have := h y (by simp)
    omega
/-- All ascending lists of n more numbers below nb that begin with some. -/
def combN (nb : Nat) : Nat → List Nat → List (List Nat)
  | 0, f => [f]
  | n + 1, f => (List.range (nb - nextN f)).flatMap fun j : Nat => combN nb n (f ++ [nextN f + j])
theorem up_snoc {f : List Nat} {b : Nat} (hp : f.Pairwise (· < ·)) (h : ∀ x ∈ f, x < b) : (f ++ [b]).Pairwise (· < ·) := by
  rw [List.pairwise_append]
  exact ⟨hp, by simp, fun x hx y hy => by simp at hy; subst hy; exact h x hx⟩
theorem mem_combN {nb : Nat} : ∀ (n : Nat) (f p : List Nat), f.Pairwise (· < ·) → (∀ x ∈ f, x < nb) → (p ∈ combN nb n f ↔ ∃ t, p = f ++ t ∧ t.length = n ∧ p.Pairwise (· < ·) ∧ ∀ x ∈ p, x < nb)
  | 0, f, p, hf, hb => by
    simp only [combN, List.mem_singleton]
    constructor
    · rintro rfl; exact ⟨[], by simp, rfl, hf, hb⟩
    · rintro ⟨t, rfl, h, _⟩; rw [List.length_eq_zero_iff.1 h, List.append_nil]
  | n + 1, f, p, hf, hb => by
    simp only [combN, List.mem_flatMap, List.mem_range]
    constructor
    · rintro ⟨j, hj, h⟩
      have hlt := (next_le hf (b := nextN f + j)).1 (by omega)
      obtain ⟨t, rfl, h1, h2, h3⟩ := (mem_combN n _ p (up_snoc hf hlt) (fun x hx => by
        rcases List.mem_append.1 hx with hx | hx
        · exact hb x hx
        · simp at hx; omega)).1 h
      exact ⟨(nextN f + j) :: t, by simp, by simp [h1], h2, h3⟩
    · rintro ⟨t, rfl, h1, h2, h3⟩
      match t, h1 with
      | y :: t, h1 =>
        have hy := h3 y (by simp)
        have e : f ++ y :: t = (f ++ [y]) ++ t := by simp
        have hlt : ∀ x ∈ f, x < y := fun x hx => (List.pairwise_append.1 h2).2.2 x hx y (by simp)
        have hle := (next_le hf).2 hlt
        have ey : nextN f + (y - nextN f) = y := by omega
        refine ⟨y - nextN f, by omega, ?_⟩
        rw [ey]
        refine (mem_combN n _ _ (up_snoc hf hlt) (fun x hx => by
          rcases List.mem_append.1 hx with hx | hx
          · exact hb x hx
          · simp at hx; omega)).2 ⟨t, e, by simpa using h1, h2, h3⟩
theorem combN_iff {nb n : Nat} {p : List Nat} : p ∈ combN nb n [] ↔ p.length = n ∧ p.Pairwise (· < ·) ∧ ∀ x ∈ p, x < nb := by
  rw [mem_combN n [] p (by simp) (by simp)]
  constructor
  · rintro ⟨t, rfl, h1, h2, h3⟩; exact ⟨by simpa using h1, h2, h3⟩
  · rintro ⟨h1, h2, h3⟩; exact ⟨p, by simp, h1, h2, h3⟩
/-- The sales of fewer bids, and those among the first i lists of as many. -/
structure SpecTo (q : List Bid) (rd : List Int) (many i : Nat) (out : List (List Nat)) : Prop where
  up : out.Pairwise aheadP
  mem : ∀ l, l ∈ out ↔ SaleL q rd l ∧ (l.length < many ∨ ∃ j, j < i ∧ (combN q.length many [])[j]? = some l)
theorem SpecTo.one (q : List Bid) (rd : List Int) : SpecTo q rd 1 0 [[]] := by
  refine ⟨by simp, fun l => ?_⟩
  rw [List.mem_singleton]
  constructor
  · rintro rfl; exact ⟨SaleL.nil q rd, .inl (by simp)⟩
  · rintro ⟨_, h | ⟨j, hj, _⟩⟩
    · exact List.length_eq_zero_iff.1 (by omega)
    · omega
theorem SpecTo.no {q : List Bid} {rd : List Int} {many i : Nat} {out : List (List Nat)} {l : List Nat} (h : SpecTo q rd many i out) (hl : (combN q.length many [])[i]? = some l) (hn : ¬ SaleL q rd l) : SpecTo q rd many (i + 1) out := by
  refine ⟨h.up, fun m => ?_⟩
  rw [h.mem]
  constructor
  · rintro ⟨h1, h2 | ⟨j, h2, h3⟩⟩
    · exact ⟨h1, .inl h2⟩
    · exact ⟨h1, .inr ⟨j, by omega, h3⟩⟩
  · rintro ⟨h1, h2 | ⟨j, h2, h3⟩⟩
    · exact ⟨h1, .inl h2⟩
    · by_cases e : j = i
      · subst e; rw [hl] at h3; cases h3; exact absurd h1 hn
      · exact ⟨h1, .inr ⟨j, by omega, h3⟩⟩
theorem SpecTo.row {q : List Bid} {rd : List Int} {many : Nat} {out : List (List Nat)} (h : SpecTo q rd many (combN q.length many []).length out) : SpecTo q rd (many + 1) 0 out := by
  refine ⟨h.up, fun l => ?_⟩
  rw [h.mem]
  constructor
  · rintro ⟨h1, h2 | ⟨j, h2, h3⟩⟩
    · exact ⟨h1, .inl (by omega)⟩
    · have := (combN_iff.1 (List.mem_of_getElem? h3)).1
      exact ⟨h1, .inl (by omega)⟩
  · rintro ⟨h1, h2 | ⟨j, h2, _⟩⟩
    · by_cases e : l.length < many
      · exact ⟨h1, .inl e⟩
      · obtain ⟨j, hj⟩ := List.getElem?_of_mem (combN_iff.2 ⟨show l.length = many by omega, h1.up, fun x hx => h1.lt hx⟩)
        exact ⟨h1, .inr ⟨j, (List.getElem?_eq_some_iff.1 hj).1, hj⟩⟩
    · omega
/-- Behind the last row all sales are there. -/
theorem SpecTo.all {q : List Bid} {rd : List Int} {many n : Nat} {out : List (List Nat)} (h : SpecTo q rd many 0 out) (hm : n < many ∨ rd.length < many) (hw : ∀ b ∈ q, 0 ≤ b.who ∧ b.who < n) (hb : ∀ b ∈ q, b.bar ≠ []) : ∀ l, l ∈ out ↔ SaleL q rd l := fun l => by
  rw [h.mem]
  constructor
  · exact fun h => h.1
  · intro hs
    have h1 := sale_buyers hs hw
    have h2 := sale_ready hs hb
    exact ⟨hs, .inl (by omega)⟩

/-! Sales in plain words: sets of buyers and barrels as bits; the loop of brings. -/
/-- u is the set of the numbers l, all below 4. -/
structure MaskOf (l : List Int) (u : Nat) : Prop where
  lt : u < 16
  bit : ∀ i : Nat, i < 4 → (u.testBit i = true ↔ (i : Int) ∈ l)
theorem or_bit4 : ∀ u, u < 16 → ∀ j, j < 4 → (u ||| (1 <<< j)) < 16 ∧ ∀ i, i < 4 → (u ||| (1 <<< j)).testBit i = (u.testBit i || decide (i = j)) := by decide +kernel
theorem or_two4 : ∀ u, u < 16 → ∀ v, v < 16 → (u ||| v) < 16 ∧ ∀ i, i < 4 → (u ||| v).testBit i = (u.testBit i || v.testBit i) := by decide +kernel
theorem and_two4 : ∀ u, u < 16 → ∀ v, v < 16 → (decide (u &&& v = 0)) = ((List.range 4).all fun i => !(u.testBit i && v.testBit i)) := by decide +kernel
theorem MaskOf.nil : MaskOf [] 0 := ⟨by omega, by simp⟩
theorem MaskOf.snoc {l : List Int} {u j : Nat} (h : MaskOf l u) (hj : j < 4) : MaskOf (l ++ [(j : Int)]) (u ||| (1 <<< j)) := by
  obtain ⟨h1, h2⟩ := or_bit4 u h.lt j hj
  refine ⟨h1, fun i hi => ?_⟩
  rw [h2 i hi, Bool.or_eq_true, decide_eq_true_eq, h.bit i hi, List.mem_append, List.mem_singleton]
  constructor
  · rintro (h | h)
    · exact .inl h
    · exact .inr (by omega)
  · rintro (h | h)
    · exact .inl h
    · exact .inr (by omega)
theorem MaskOf.app {l m : List Int} {u v : Nat} (h : MaskOf l u) (k : MaskOf m v) : MaskOf (l ++ m) (u ||| v) := by
  obtain ⟨h1, h2⟩ := or_two4 u h.lt v k.lt
  refine ⟨h1, fun i hi => ?_⟩
  rw [h2 i hi, Bool.or_eq_true, h.bit i hi, k.bit i hi, List.mem_append]
/-- No number is in both sets. -/
theorem mask_apart {l m : List Int} {u v : Nat} (h : MaskOf l u) (k : MaskOf m v) (hm : ∀ x ∈ m, 0 ≤ x ∧ x < 4) : u &&& v = 0 ↔ ∀ x ∈ m, x ∉ l := by
  have e := and_two4 u h.lt v k.lt
  rw [← decide_eq_true_iff (p := u &&& v = 0), e, List.all_eq_true]
  constructor
  · intro ha x hx hl
    obtain ⟨i, rfl⟩ : ∃ i : Nat, x = i := ⟨x.toNat, by have := hm x hx; omega⟩
    have hi : i < 4 := by have := hm _ hx; omega
    have := ha i (List.mem_range.2 hi)
    rw [(h.bit i hi).2 hl, (k.bit i hi).2 hx] at this
    cases this
  · intro ha i hi
    have hi4 := List.mem_range.1 hi
    cases hu : u.testBit i
    · rfl
    · cases hv : v.testBit i
      · rfl
      · exact absurd ((h.bit i hi4).1 hu) (ha _ ((k.bit i hi4).1 hv))
theorem andnot4 : ∀ m, m < 16 → ∀ r, r < 16 → (decide (m &&& (15 - r) = 0)) = ((List.range 4).all fun i => !m.testBit i || r.testBit i) := by decide +kernel
/-- Each number of one set is in the other one. -/
theorem mask_within {l m : List Int} {u v : Nat} (h : MaskOf l u) (k : MaskOf m v) (hm : ∀ x ∈ m, 0 ≤ x ∧ x < 4) : v &&& (15 - u) = 0 ↔ ∀ x ∈ m, x ∈ l := by
  have e := andnot4 v k.lt u h.lt
  rw [← decide_eq_true_iff (p := v &&& (15 - u) = 0), e, List.all_eq_true]
  constructor
  · intro ha x hx
    obtain ⟨i, rfl⟩ : ∃ i : Nat, x = i := ⟨x.toNat, by have := hm x hx; omega⟩
    have hi : i < 4 := by have := hm _ hx; omega
    have := ha i (List.mem_range.2 hi)
    rw [(k.bit i hi).2 hx] at this
    exact (h.bit i hi).1 (by simpa using this)
  · intro ha i hi
    have hi4 := List.mem_range.1 hi
    cases hv : v.testBit i
    · rfl
    · rw [(h.bit i hi4).2 (ha _ ((k.bit i hi4).1 hv))]; rfl
def barsOf (q : List Bid) (p : List Nat) : List Int := p.flatMap fun j => match q[j]? with | some b => b.bar | none => []
theorem barsOf_app (q : List Bid) (p : List Nat) {i : Nat} {b : Bid} (h : q[i]? = some b) : barsOf q (p ++ [i]) = barsOf q p ++ b.bar := by
  unfold barsOf
  rw [List.flatMap_append]
  simp [h]
theorem mem_barsOf {q : List Bid} {p : List Nat} {x : Int} : x ∈ barsOf q p ↔ ∃ j ∈ p, ∃ b, q[j]? = some b ∧ x ∈ b.bar := by
  unfold barsOf
  rw [List.mem_flatMap]
  constructor
  · rintro ⟨j, hj, hx⟩
    cases hb : q[j]? with
    | none => rw [hb] at hx; simp at hx
    | some b => rw [hb] at hx; exact ⟨j, hj, b, hb, hx⟩
  · rintro ⟨j, hj, b, hb, hx⟩
    exact ⟨j, hj, by rw [hb]; exact hx⟩
/-- Behind the bids p of a sale: its buyers u, its barrels v, and what it brings. -/
structure BrTo (q : List Bid) (rd : List Int) (p : List Nat) (u v : Nat) (n : Int) : Prop where
  sale : SaleL q rd p
  bu : MaskOf (p.map (whoAt q)) u
  bv : MaskOf (barsOf q p) v
  val : n = bringsL q p
theorem BrTo.nil (q : List Bid) (rd : List Int) : BrTo q rd [] 0 0 0 := ⟨SaleL.nil q rd, MaskOf.nil, MaskOf.nil, rfl⟩
theorem BrTo.iff {q : List Bid} {rd : List Int} {p : List Nat} {u v r m w i : Nat} {n : Int} {b : Bid} (h : BrTo q rd p u v n) (hi : ∀ j ∈ p, j < i) (hb : q[i]? = some b) (hw : b.who = w) (hw4 : w < 4) (hm : MaskOf b.bar m) (hb4 : ∀ x ∈ b.bar, 0 ≤ x ∧ x < 4) (hr : MaskOf rd r) :
    SaleL q rd (p ++ [i]) ↔ u.testBit w = false ∧ v &&& m = 0 ∧ m &&& (15 - r) = 0 := by
  rw [sale_snoc h.sale hi hb, ready_iff, mask_within hr hm hb4, mask_apart h.bv hm hb4]
  have hu : u.testBit w = false ↔ ∀ j ∈ p, ∀ a, q[j]? = some a → a.who ≠ b.who := by
    rw [← Bool.not_eq_true, h.bu.bit w hw4, List.mem_map]
    constructor
    · intro hn j hj a ha e
      exact hn ⟨j, hj, by unfold whoAt; rw [ha]; show a.who = (w : Int); rw [e, hw]⟩
    · rintro hn ⟨j, hj, e⟩
      obtain ⟨a, ha, _⟩ := h.sale.rdy j hj
      unfold whoAt at e
      rw [ha] at e
      exact hn j hj a ha ((show a.who = (w : Int) from e).trans hw.symm)
  rw [hu]
  constructor
  · rintro ⟨h1, h2⟩
    refine ⟨fun j hj a ha => (apart_iff.1 (h2 j hj a ha)).1, fun x hx hxl => ?_, h1⟩
    obtain ⟨j, hj, a, ha, hxa⟩ := mem_barsOf.1 hxl
    exact (apart_iff.1 (h2 j hj a ha)).2 x hxa hx
  · rintro ⟨h1, h2, h3⟩
    exact ⟨h3, fun j hj a ha => apart_iff.2 ⟨h1 j hj a ha, fun x hxa hxb => h2 x hxb (mem_barsOf.2 ⟨j, hj, a, ha, hxa⟩)⟩⟩
theorem BrTo.next {q : List Bid} {rd : List Int} {p : List Nat} {u v m w i : Nat} {n : Int} {b : Bid} (h : BrTo q rd p u v n) (hs : SaleL q rd (p ++ [i])) (hb : q[i]? = some b) (hw : b.who = w) (hw4 : w < 4) (hm : MaskOf b.bar m) : BrTo q rd (p ++ [i]) (u ||| (1 <<< w)) (v ||| m) (n + b.pay) := by
  refine ⟨hs, ?_, ?_, ?_⟩
  · rw [List.map_append]
    have : [i].map (whoAt q) = [(w : Int)] := by simp [whoAt, hb, hw]
    rw [this]
    exact h.bu.snoc hw4
  · rw [barsOf_app q p hb]; exact h.bv.app hm
  · rw [brings_app, h.val, brings_cons, brings_nil, payAt_some hb]; omega

end Go.Proofs.YtmbcpmnigggbaabGreat
namespace Go.Proofs.YtmbcpmnigggbaabGreat

end Go.Proofs.YtmbcpmnigggbaabGreat
namespace Go.Proofs.YtmbcpmnigggbaabGreat
open Go.RowKit

/-- What a step keeps: whatever lay below n₀, but for the blocks of S. -/
structure KpB (S : Nat → Prop) (n₀ : Nat) (W W' : World) : Prop where
  os : W'.os = W.os
  tape : W'.tape = W.tape
  output : W'.output = W.output
  size : W.heap.size ≤ W'.heap.size
  block : ∀ k, k < n₀ → ¬ S k → W'.heap[k]? = W.heap[k]?
theorem KpB.trans {S : Nat → Prop} {n₀ : Nat} {A B C : World} (h : KpB S n₀ A B) (k : KpB S n₀ B C) : KpB S n₀ A C :=
  ⟨k.os.trans h.os, k.tape.trans h.tape, k.output.trans h.output, Nat.le_trans h.size k.size, fun i hi hs => (k.block i hi hs).trans (h.block i hi hs)⟩
theorem KpB.refl (S : Nat → Prop) (n₀ : Nat) (W : World) : KpB S n₀ W W := ⟨rfl, rfl, rfl, Nat.le_refl _, fun _ _ _ => rfl⟩
theorem KpB.put {S : Nat → Prop} {n₀ : Nat} {w W : World} (h : KpB S n₀ w W) (l : Nat) (o' : Obj) (hl : S l ∨ n₀ ≤ l) : KpB S n₀ w (W.putObj l o') :=
  h.trans ⟨rfl, rfl, rfl, by simp, fun k hk hs => World.putObj_heap_other (fun e => hl.elim (fun hl => hs (e ▸ hl)) (fun hl => by omega))⟩
theorem kpB_of_below {S : Nat → Prop} {n₀ : Nat} {W W' : World} (h : Below n₀ W W') : KpB S n₀ W W' := ⟨h.os, h.tape, h.output, h.size, fun k hk _ => h.block k hk⟩
theorem KpB.below {S : Nat → Prop} {n₀ : Nat} {W W' : World} (h : KpB S n₀ W W') (hS : ∀ k, S k → n₀ ≤ k) : Below n₀ W W' := ⟨h.os, h.tape, h.output, h.size, fun k hk => h.block k hk (fun hs => by have := hS k hs; omega)⟩
theorem KpB.set {S : Nat → Prop} {n₀ : Nat} {w W : World} (hw : KpB S n₀ w W) {k : Nat} (o : Nat) (v : Value) (h : S k ∨ n₀ ≤ k) : KpB S n₀ w (W.setCell ⟨k, o, none⟩ v) :=
  hw.trans ⟨rfl, rfl, rfl, by simp [World.setCell], fun i hi hs => Below.heap_setCell _ _ _ _ (fun e => by cases e; exact h.elim (fun h => hs h) (fun h => by simp at hi; omega))⟩
theorem KpB.alloc {S : Nat → Prop} {n₀ : Nat} {w W : World} (hw : KpB S n₀ w W) (o : Obj) (h : n₀ ≤ W.heap.size) : KpB S n₀ w (W.alloc o) := hw.trans (kpB_of_below ((Below.refl _ W).alloc h o))
theorem KpB.mono {S S' : Nat → Prop} {n₀ n₁ : Nat} {W W' : World} (h : KpB S n₀ W W') (hn : n₁ ≤ n₀) (hS : ∀ k, k < n₁ → S k → S' k) : KpB S' n₁ W W' := ⟨h.os, h.tape, h.output, h.size, fun k hk hs => h.block k (by omega) (fun hk' => hs (hS k hk hk'))⟩
theorem KpB.cell {S : Nat → Prop} {n₀ : Nat} {W W' : World} (h : KpB S n₀ W W') {b o : Nat} (hb : b < n₀) (hs : ¬ S b) : W'.cell? ⟨b, o, none⟩ = W.cell? ⟨b, o, none⟩ := World.cell?_of_block (h.block b hb hs)
theorem KpB.frozen {S : Nat → Prop} {n₀ : Nat} {W W' : World} (h : KpB S n₀ W W') {b o : Nat} (hb : b < n₀) (hs : ¬ S b) : W'.frozen? ⟨b, o, none⟩ = W.frozen? ⟨b, o, none⟩ := World.frozen?_of_block (h.block b hb hs)

/-- The blocks from B up to D. -/
def Seg (B D : Nat) : Nat → Prop := fun k => B ≤ k ∧ k < D

variable {F : Fence} {n : Nat} {P : Program}

open Go.RowKit

/-! A region that draws its order, inside a round of a range over a function: walked once, as outside. -/
/-- No operation of the region defers. -/
def noDefer (l : List Oper) : Bool := l.all fun o => match o.op with | .defer _ => false | _ => true
theorem noDefer_at {l : List Oper} (h : noDefer l = true) {i : Nat} {o : Oper} (ho : l[i]? = some o) : ∀ c, o.op ≠ .defer c := by
  intro c hc
  have := List.all_eq_true.1 h o (List.mem_of_getElem? ho)
  rw [hc] at this
  cases this
theorem wpOpIn_round {l n : Nat} {P : Program} {ops : Array Oper} {Q : Exit → Act → World → Prop} (hd : ∀ (i : Nat) (o : Oper), ops[i]? = some o → ∀ c, o.op ≠ .defer c) (hQ : ¬ LetsOut Q) {i : Nat} {K K' : Act → World → Prop} {a : Act} {w : World} (hK : ∀ a w, K a w → K' a w)
    (h : wpOp P ops Q i K a w) : wpOpIn (Fence.wide.inRound l) n P ops Q i K' a w := by
  unfold wpOp at h
  unfold wpOpIn
  cases ho : ops[i]? with
  | none => rw [ho] at h; exact hK _ _ h
  | some o =>
    rw [ho] at h
    simp only at h ⊢
    by_cases hw : Region.wanted o (yielded ops a.tmps) = true
    · rw [if_pos hw] at h ⊢
      have h := h.resolve_right (fun hh => hQ hh.2)
      refine ⟨fun _ _ => trivial, ?_⟩
      rw [Fence.inRound_round, Oper.semAt_some _ _ _ (hd i o ho)]
      unfold Oper.wp at h
      revert h
      generalize (execOp a.eval o).run P w = r
      intro h
      cases r with
      | ok x w' =>
        cases x with
        | enter f args =>
          refine ⟨(fun hh => by cases hh), CallsIn.inRound l (callsIn_wide.2 (Calls.mono h ?_))⟩
          intro e w'' he
          cases e with
          | returned v => exact hK _ _ he
          | panicked chain => exact he
          | outgrown => exact he
        | row row args => exact ⟨(fun hh => by cases hh), fun c cs _ => let ⟨v, w', r, s⟩ := h c cs; ⟨v, w', hK _ _ r, stepsIn_wide.2 s⟩⟩
        | value v => exact hK _ _ h
        | skip => exact hK _ _ h
        | defer d => exact hK _ _ h
        | _ => exact h.elim
      | halt x w' => cases x <;> simp only [Oper.upon] at h <;> simp only [Oper.uponIn] <;> first | exact h | exact h.elim
    · rw [if_neg hw] at h ⊢
      exact ⟨fun _ _ => trivial, hK _ _ h⟩
theorem wpAnyIn_round {l n : Nat} {P : Program} {md : Region.Mode} {ops : Array Oper} {Q : Exit → Act → World → Prop} (hd : ∀ (i : Nat) (o : Oper), ops[i]? = some o → ∀ c, o.op ≠ .defer c) (hQ : ¬ LetsOut Q) : ∀ (fuel : Nat) (listed : Array Bool) (a : Act) (w : World),
    wpAny P md ops Q fuel listed a w → wpAnyIn (Fence.wide.inRound l) n P md ops Q fuel listed a w
  | 0, _, _, _, h => h
  | fuel + 1, _, _, _, h => ⟨h.1, fun i hi => wpOpIn_round hd hQ (fun a w hh => wpAnyIn_round hd hQ fuel _ a w hh) (h.2 i hi)⟩
/-! A region whose last operation (a store, a builtin without a slot) waits for all others, which are quiet. -/
/-- The same operation, that does nothing. -/
def idle (o : Oper) : Oper := { o with op := .move (.const undef) }
def waitsAll (n : Nat) (o : Oper) : Bool := (List.range n).all fun j => o.after.any fun e => Region.binds .any e && e.on == j
def lastOK (n : Nat) (o : Oper) : Bool := o.guard.isNone && (o.dst.isNone && waitsAll n o)
/-- Each operation waits for earlier ones alone. -/
def backB (L : List Oper) : Bool := (List.range L.length).all fun j => (L.getD j default).after.all fun e => decide (e.on < j)
theorem backB_at {L : List Oper} (h : backB L = true) {j : Nat} {o : Oper} (ho : L[j]? = some o) : ∀ e ∈ o.after, e.on < j := by
  obtain ⟨hj, e1⟩ := List.getElem?_eq_some_iff.1 ho
  have := List.all_eq_true.1 h j (List.mem_range.2 hj)
  rw [List.getD, ho] at this
  intro e he
  obtain ⟨i, hi, rfl⟩ := Array.getElem_of_mem he
  have := Array.all_eq_true.1 this i hi
  simpa using this
theorem ready_none {L : List Oper} (h : backB L = true) {listed : Array Bool} (hz : listed.size = L.length) (hr : Region.ready .any L.toArray listed = []) : ∀ j, j < L.length → listed.getD j true = true := by
  intro j
  induction j using Nat.strongRecOn with
  | ind j ih =>
    intro hj
    cases hb : listed.getD j true with
    | true => rfl
    | false =>
      have : j ∈ Region.ready .any L.toArray listed := by
        rw [mem_ready]
        refine ⟨hb, L[j], by simp [hj], fun e he _ => ?_⟩
        have h1 := backB_at h (List.getElem?_eq_getElem hj) e he
        have h2 := ih e.on h1 (by omega)
        have h3 : e.on < listed.size := by omega
        simpa [h3] using h2
      rw [hr] at this
      simp at this
theorem waitsAll_at {n : Nat} {o : Oper} (h : waitsAll n o = true) {j : Nat} (hj : j < n) : ∃ e ∈ o.after, Region.binds .any e = true ∧ e.on = j := by
  have := List.all_eq_true.1 h j (List.mem_range.2 hj)
  obtain ⟨i, hi, h1⟩ := Array.any_eq_true.1 this
  simp only [Bool.and_eq_true, beq_iff_eq] at h1
  exact ⟨_, Array.getElem_mem hi, h1⟩
theorem snoc_at {α : Type} (l : List α) (x : α) (j : Nat) : (l ++ [x]).toArray[j]? = if j = l.length then some x else l[j]? := by
  simp only [List.getElem?_toArray]
  by_cases h : j = l.length
  · subst h; simp
  · rw [if_neg h]
    by_cases h2 : j < l.length
    · rw [List.getElem?_append_left h2]
    · rw [List.getElem?_append_right (by omega), List.getElem?_eq_none (by simp; omega), List.getElem?_eq_none (by omega)]
theorem ready_idle {l : List Oper} {o : Oper} {listed : Array Bool} {j : Nat} : j ∈ Region.ready .any (l ++ [idle o]).toArray listed ↔ j ∈ Region.ready .any (l ++ [o]).toArray listed := by
  rw [mem_ready, mem_ready, snoc_at, snoc_at]
  by_cases h : j = l.length
  · rw [if_pos h, if_pos h]; simp [idle]
  · rw [if_neg h, if_neg h]
theorem yielded_idle {l : List Oper} {o : Oper} (hd : o.dst = none) (tmps : Array Value) : yielded (l ++ [idle o]).toArray tmps = yielded (l ++ [o]).toArray tmps := by
  funext j
  unfold yielded
  rw [snoc_at, snoc_at]
  by_cases h : j = l.length
  · rw [if_pos h, if_pos h]; simp [idle, hd]
  · rw [if_neg h, if_neg h]
/-- What is asked behind the quiet operations: the last one. -/
def lastQ (P : Program) (o : Oper) (Q : Exit → Act → World → Prop) : Exit → Act → World → Prop
  | .normal, a, w => o.wp P a w (fun a' w' => Q .normal a' w') Q
  | e, a, w => Q e a w
theorem upon_lastQ {P : Program} {o o' : Oper} {a : Act} {w : World} {K K' : Act → World → Prop} {Q : Exit → Act → World → Prop} (hK : ∀ a w, K a w → K' a w) (h : o'.wp P a w K (lastQ P o Q)) : o'.wp P a w K' Q := by
  unfold Oper.wp at *
  generalize (execOp a.eval o').run P w = r at *
  cases r with
  | ok x w' =>
    cases x with
    | enter f args =>
      refine Calls.mono h ?_
      intro e w'' he
      cases e with
      | returned v => exact hK _ _ he
      | panicked chain => exact he
      | outgrown => exact he
    | row row args => exact Rows.mono h fun v w' r => hK _ _ r
    | value v => exact hK _ _ h
    | skip => exact hK _ _ h
    | defer d => exact hK _ _ h
    | _ => exact h.elim
  | halt x w' => cases x <;> first | exact h | exact h.elim
theorem wpAny_idle {P : Program} {l : List Oper} {o : Oper} {Q : Exit → Act → World → Prop} (hl : lastOK l.length o = true) (hb : backB (l ++ [o]) = true) : ∀ (fuel : Nat) (listed : Array Bool) (a : Act) (w : World), listed.size = l.length + 1 →
    listed.getD l.length true = false → wpAny P .any (l ++ [idle o]).toArray (lastQ P o Q) fuel listed a w → wpAny P .any (l ++ [o]).toArray Q fuel listed a w := by
  simp only [lastOK, Bool.and_eq_true, Option.isNone_iff_eq_none] at hl
  obtain ⟨hg, hd, hw⟩ := hl
  have hlast : ∀ {listed : Array Bool}, l.length ∈ Region.ready .any (l ++ [o]).toArray listed → ∀ j, j < l.length → listed.getD j false = true := fun {listed} hm j hj => by
    obtain ⟨_, o', ho', h⟩ := mem_ready.1 hm
    rw [snoc_at, if_pos rfl] at ho'
    cases ho'
    obtain ⟨e, he, hbb, hon⟩ := waitsAll_at hw hj
    rw [← hon]; exact h e he hbb
  have hno : ∀ {listed : Array Bool}, listed.size = l.length + 1 → listed.getD l.length true = false → Region.ready .any (l ++ [o]).toArray listed ≠ [] := fun {listed} hz hu hr => by
    have := ready_none hb (by rw [List.length_append]; exact hz) hr l.length (by simp)
    rw [this] at hu; cases hu
  intro fuel
  induction fuel with
  | zero =>
    intro listed a w hz hu h
    exact (hno hz hu (List.eq_nil_iff_forall_not_mem.2 fun j hj => by rw [← ready_idle, h.1] at hj; cases hj)).elim
  | succ fuel ih =>
    intro listed a w hz hu h
    refine ⟨fun hr => (hno hz hu hr).elim, fun i hi => ?_⟩
    have h1 := h.2 i (ready_idle.2 hi)
    by_cases hil : i = l.length
    · subst hil
      have hall := hlast hi
      have hrn : ∀ j, j ∉ Region.ready .any (l ++ [o]).toArray (listed.setIfInBounds l.length true) := fun j hj => by
        obtain ⟨h2, o', ho', -⟩ := mem_ready.1 hj
        have hjl : j < l.length + 1 := by
          have := (Array.getElem?_eq_some_iff.1 ho').1
          simpa using this
        by_cases e : j = l.length
        · subst e
          rw [Array.getD_eq_getD_getElem?, Array.getElem?_setIfInBounds_self_of_lt (by omega)] at h2
          simp at h2
        · rw [getD_set_ne true (Ne.symm e)] at h2
          have h3 := hall j (by omega)
          have h4 : j < listed.size := by omega
          simp [h4] at h2 h3
          rw [h2] at h3; cases h3
      have hend : ∀ {Q0 : Exit → Act → World → Prop} {a' : Act} {w' : World}, Q0 .normal a' w' → wpAny P .any (l ++ [o]).toArray Q0 fuel (listed.setIfInBounds l.length true) a' w' := fun {Q0 a' w'} hq => by
        cases fuel with
        | zero => exact ⟨List.eq_nil_iff_forall_not_mem.2 hrn, hq⟩
        | succ fuel => exact ⟨fun _ => hq, fun j hj => (hrn j hj).elim⟩
      -- what the idle operation leaves
      have hq : lastQ P o Q .normal a w := by
        unfold wpOp at h1
        rw [snoc_at, if_pos rfl] at h1
        have hgi : (idle o).guard = none := hg
        have hdi : (idle o).dst = none := hd
        have hex : execOp a.eval (idle o) = pure (.value (a.eval (.const undef))) := rfl
        simp only [Region.wanted, hgi, if_true] at h1
        have hk : wpAny P .any (l ++ [idle o]).toArray (lastQ P o Q) fuel (listed.setIfInBounds l.length true) a w := by
          rcases h1 with h1 | ⟨h1, _⟩
          · unfold Oper.wp at h1
            rw [hex] at h1
            simpa [Oper.upon, Act.put, hdi] using h1
          · unfold Oper.asks at h1
            rw [hex] at h1
            exact absurd (show noRoomEvent ∈ (#[] : Array Event) from h1.1) (by simp)
        cases fuel with
        | zero => exact hk.2
        | succ fuel => exact hk.1 (List.eq_nil_iff_forall_not_mem.2 fun j hj => hrn j (ready_idle.1 hj))
      unfold wpOp
      rw [snoc_at, if_pos rfl]
      simp only [Region.wanted, hg, if_true]
      refine .inl (Oper.wp_mono (fun a' w' h' => hend h') hq)
    · have hi2 : (l ++ [idle o]).toArray[i]? = (l ++ [o]).toArray[i]? := by rw [snoc_at, snoc_at, if_neg hil, if_neg hil]
      unfold wpOp at h1 ⊢
      rw [hi2, yielded_idle hd] at h1
      have hset : (listed.setIfInBounds i true).size = l.length + 1 := by simp [hz]
      have hun : (listed.setIfInBounds i true).getD l.length true = false := by rw [getD_set_ne true hil]; exact hu
      cases ho : (l ++ [o]).toArray[i]? with
      | none => rw [ho] at h1; exact ih _ _ _ hset hun h1
      | some o' =>
        rw [ho] at h1
        simp only at h1 ⊢
        split at h1
        · rename_i hwt
          rw [if_pos hwt]
          rcases h1 with h1 | ⟨h1, a', w', h2⟩
          · exact .inl (upon_lastQ (fun a w hh => ih _ a w hset hun hh) h1)
          · exact .inr ⟨h1, a', w', h2⟩
        · rename_i hwt
          rw [if_neg hwt]
          exact ih _ _ _ hset hun h1
theorem wpQuiet_snoc {P : Program} {ops : Array Oper} {C : World → Prop} {Q : Act → Prop} {o : Oper} (hg : o.guard = none) (hd : o.dst = none) : ∀ (l : List Oper) (a : Act), wpQuiet P ops C Q l a → wpQuiet P ops C Q (l ++ [idle o]) a
  | [], a, h => by
    have hgi : (idle o).guard = none := hg
    have hdi : (idle o).dst = none := hd
    rw [List.nil_append, wpQuiet, if_pos (by simp [Region.wanted, hgi])]
    refine ⟨a.eval (.const undef), fun w _ => ?_, by simpa [Act.put, hdi] using h⟩
    exact ⟨rfl, rfl⟩
  | o' :: l, a, h => by
    rw [wpQuiet] at h
    rw [List.cons_append, wpQuiet]
    split
    · rename_i hw
      rw [if_pos hw] at h
      exact Oper.quiet_mono (fun a' h' => wpQuiet_snoc hg hd l a' h') h
    · rename_i hw
      rw [if_neg hw] at h
      exact wpQuiet_snoc hg hd l _ h
theorem wpAny_tail {P : Program} {l : List Oper} {o : Oper} {Q : Exit → Act → World → Prop} {C : World → Prop} {a : Act} {w : World} (hl : lastOK l.length o = true) (hb : backB (l ++ [o]) = true) (hB : Region.lexB .any (l ++ [idle o]).toArray = true) (hC : C { w with drawn := w.drawn + 1 })
    (h : wpQuiet P (l ++ [idle o]).toArray C (fun a' => ∀ w', C w' → o.wp P a' w' (fun a'' w'' => Q .normal a'' w'') Q) l a) :
    wpAny P .any (l ++ [o]).toArray Q (l ++ [o]).toArray.size (Array.replicate (l ++ [o]).toArray.size false) a { w with drawn := w.drawn + 1 } := by
  simp only [Region.lexB, Bool.and_eq_true] at hB
  have hl' := hl
  simp only [lastOK, Bool.and_eq_true, Option.isNone_iff_eq_none] at hl'
  refine wpAny_idle hl hb _ _ _ _ (by simp) (by simp) ?_
  refine wpAny_of_quiet (Q := fun a' => ∀ w', C w' → o.wp P a' w' (fun a'' w'' => Q .normal a'' w'') Q) (fun _ w' hw' h => h w' hw') _ _ _ _ hC ?_
  have := wpAnyQ_lex (C := C) (md := .any) hB.1 (l ++ [idle o]).toArray.toList 0 (Array.replicate (l ++ [idle o]).toArray.size false) a (by simp) (by simpa using hB.2) (by simpa using wpQuiet_snoc hl'.1 hl'.2.1 l a h)
  simpa using this
/-- The region as the walk meets it: its first N operations are quiet. -/
theorem wpIn_region_tail {k n id : Nat} {P : Program} {L : List Oper} {Q : Exit → Act → World → Prop} {C : World → Prop} {a : Act} {w : World} (l : List Oper) (o : Oper) (hL : L = l ++ [o]) (hQ : ¬ LetsOut Q) (hd : noDefer L = true) (hm : P.follows .mixedOrders = true) (hl : lastOK l.length o = true) (hb : backB L = true) (hB : Region.lexB .any (l ++ [idle o]).toArray = true)
    (hC : C { w with drawn := w.drawn + 1 }) (h : wpQuiet P (l ++ [idle o]).toArray C (fun a' => ∀ w', C w' → o.wp P a' w' (fun a'' w'' => Q .normal a'' w'') Q) l a) : (Code.region id L.toArray true).wpIn (Fence.wide.inRound k) n P Q a w := by
  subst hL
  exact wpIn_region_any hm (wpAnyIn_round (fun i o ho => noDefer_at hd (by simpa using ho)) hQ _ _ _ _ (wpAny_tail hl hb hB hC h))
end Go.Proofs.YtmbcpmnigggbaabGreat
