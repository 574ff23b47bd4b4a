import Derived.Test.YtmbcpmnigggbaaaPL
import Derived.Test.YtmbcpmnigggbaaaR3
import Derived.Deep.RegionLaw
namespace Go.Proofs.Ytmbcpmnigggbaaa
/-! Sales in plain words: what can be reckoned: sets, the most, the winners. -/
def saleB (q : List Bid) (rd : List Int) (l : List Nat) : Bool :=
  decide (l.Pairwise (· < ·)) && (l.all (fun i => match q[i]? with | some b => readyB rd b | none => false) &&
    l.all fun i => l.all fun j => decide (i = j) || match q[i]?, q[j]? with | some a, some b => apartB a b | _, _ => true)
theorem saleB_iff {q : List Bid} {rd : List Int} {l : List Nat} : saleB q rd l = true ↔ SaleL q rd l := by
  unfold saleB
  rw [Bool.and_eq_true, Bool.and_eq_true, decide_eq_true_eq, List.all_eq_true, List.all_eq_true]
  constructor
  · rintro ⟨h1, h2, h3⟩
    refine ⟨h1, fun i hi => ?_, fun i hi j hj hne a b ha hb => ?_⟩
    · have := h2 i hi
      cases hq : q[i]? with
      | none => rw [hq] at this; cases this
      | some b => rw [hq] at this; exact ⟨b, rfl, this⟩
    · have := List.all_eq_true.1 (h3 i hi) j hj
      rw [ha, hb, Bool.or_eq_true, decide_eq_true_eq] at this
      exact this.resolve_left hne
  · rintro ⟨h1, h2, h3⟩
    refine ⟨h1, fun i hi => ?_, fun i hi => ?_⟩
    · obtain ⟨b, hb, hr⟩ := h2 i hi
      rw [hb]; exact hr
    · rw [List.all_eq_true]
      intro j hj
      by_cases e : i = j
      · simp [e]
      · rw [Bool.or_eq_true]
        right
        cases hqi : q[i]? with
        | none => rfl
        | some a =>
          cases hqj : q[j]? with
          | none => rfl
          | some b => exact h3 i hi j hj e a b hqi hqj
theorem saleB_no {q : List Bid} {rd : List Int} {l : List Nat} (h : ¬ SaleL q rd l) : saleB q rd l = false := by
  rw [← Bool.not_eq_true, saleB_iff]; exact h
/-- What a set of bids brings; below 0: it is no sale. -/
def brV (q : List Bid) (rd : List Int) (l : List Nat) : Int := if saleB q rd l = true then bringsL q l else -1
theorem brV_yes {q : List Bid} {rd : List Int} {l : List Nat} (h : SaleL q rd l) : brV q rd l = bringsL q l := if_pos (saleB_iff.2 h)
theorem brV_no {q : List Bid} {rd : List Int} {l : List Nat} (h : ¬ SaleL q rd l) : brV q rd l = -1 := if_neg (by rw [saleB_iff]; exact h)
/-- All sets that are sales. -/
def setsTo (q : List Bid) (rd : List Int) (k : Nat) : List Nat := (List.range k).filter fun m => saleB q rd (bitsL q.length m)
def setsL (q : List Bid) (rd : List Int) : List Nat := setsTo q rd (2 ^ q.length)
theorem setsTo_succ (q : List Bid) (rd : List Int) (k : Nat) : setsTo q rd (k + 1) = setsTo q rd k ++ if saleB q rd (bitsL q.length k) = true then [k] else [] := by
  unfold setsTo
  rw [List.range_succ, List.filter_append]
  congr 1
  cases h : saleB q rd (bitsL q.length k) <;> simp [h]
theorem mem_setsTo {q : List Bid} {rd : List Int} {k m : Nat} : m ∈ setsTo q rd k ↔ m < k ∧ SaleL q rd (bitsL q.length m) := by
  unfold setsTo
  rw [List.mem_filter, List.mem_range, saleB_iff]
theorem setsTo_pre (q : List Bid) (rd : List Int) {k n : Nat} (h : k ≤ n) : setsTo q rd k <+: setsTo q rd n := by
  obtain ⟨d, rfl⟩ := Nat.exists_eq_add_of_le h
  clear h
  induction d with
  | zero => exact List.prefix_rfl
  | succ d ih =>
    rw [show k + (d + 1) = (k + d) + 1 by omega, setsTo_succ]
    exact ih.trans (List.prefix_append _ _)
theorem bits_small : ∀ n, n ≤ 8 → ∀ m, m < 2 ^ n → ∀ i, i < 8 → n ≤ i → m.testBit i = false := fun n _ m hm i _ hni =>
  Nat.testBit_lt_two_pow (Nat.lt_of_lt_of_le hm (Nat.pow_le_pow_right (by omega) hni))
theorem bits_eight {n m : Nat} (hn : n ≤ 8) (hm : m < 2 ^ n) : bitsL 8 m = bitsL n m := by
  have : ∀ d, n + d ≤ 8 → bitsL (n + d) m = bitsL n m := fun d => by
    induction d with
    | zero => intro _; rfl
    | succ d ih =>
      intro hd
      rw [show n + (d + 1) = (n + d) + 1 by omega, bits_succ, ih (by omega), bits_small n hn m hm (n + d) (by omega) (by omega)]
      simp
  have := this (8 - n) (by omega)
  rw [show n + (8 - n) = 8 by omega] at this
  exact this
theorem pow_eight {n : Nat} (hn : n ≤ 8) : 2 ^ n ≤ 256 := Nat.pow_le_pow_right (by omega) hn
/-- The most that some sets bring, of those that are meant. -/
def mostTo (q : List Bid) (p : Nat → Bool) (S : List Nat) : Int := S.foldl (fun n m => if p m = true then max n (bringsL q (bitsL q.length m)) else n) (-1)
theorem mostTo_snoc (q : List Bid) (p : Nat → Bool) (S : List Nat) (m : Nat) : mostTo q p (S ++ [m]) = if p m = true then max (mostTo q p S) (bringsL q (bitsL q.length m)) else mostTo q p S := by
  unfold mostTo; rw [List.foldl_append]; rfl
theorem mostTo_ge (q : List Bid) (p : Nat → Bool) (hq : ∀ b ∈ q, 0 ≤ b.pay) (S : List Nat) : (∀ m ∈ S, p m = true → bringsL q (bitsL q.length m) ≤ mostTo q p S) ∧ ((mostTo q p S = -1 ∧ ∀ m ∈ S, ¬ p m = true) ∨ ∃ m ∈ S, p m = true ∧ bringsL q (bitsL q.length m) = mostTo q p S) := by
  refine snoc_indN (P := fun S => (∀ m ∈ S, p m = true → bringsL q (bitsL q.length m) ≤ mostTo q p S) ∧ ((mostTo q p S = -1 ∧ ∀ m ∈ S, ¬ p m = true) ∨ ∃ m ∈ S, p m = true ∧ bringsL q (bitsL q.length m) = mostTo q p S)) ⟨fun m hm => by simp at hm, .inl ⟨rfl, fun m hm => by simp at hm⟩⟩ (fun S x ⟨h1, h2⟩ => ?_) S
  rw [mostTo_snoc]
  by_cases hx : p x = true
  · rw [if_pos hx]
    have h0 := brings_nonneg hq (bitsL q.length x)
    refine ⟨fun m hm hp => ?_, .inr ?_⟩
    · rcases List.mem_append.1 hm with hm | hm
      · have := h1 m hm hp; omega
      · rw [List.mem_singleton.1 hm]; omega
    · by_cases hle : bringsL q (bitsL q.length x) ≤ mostTo q p S
      · rcases h2 with ⟨e, _⟩ | ⟨m, k1, k2, k3⟩
        · omega
        · exact ⟨m, by simp [k1], k2, by omega⟩
      · exact ⟨x, by simp, hx, by omega⟩
  · rw [if_neg hx]
    refine ⟨fun m hm hp => ?_, ?_⟩
    · rcases List.mem_append.1 hm with hm | hm
      · exact h1 m hm hp
      · rw [List.mem_singleton.1 hm] at hp; exact absurd hp hx
    · rcases h2 with ⟨e, h3⟩ | ⟨m, k1, k2, k3⟩
      · refine .inl ⟨e, fun m hm => ?_⟩
        rcases List.mem_append.1 hm with hm | hm
        · exact h3 m hm
        · rw [List.mem_singleton.1 hm]; exact hx
      · exact .inr ⟨m, by simp [k1], k2, k3⟩
theorem most_of_sets {q : List Bid} {rd : List Int} {P : List Nat → Prop} {p : Nat → Bool} (hn : q.length ≤ 8) (hq : ∀ b ∈ q, 0 ≤ b.pay) (hP : ∀ m, m < 2 ^ q.length → (p m = true ↔ P (bitsL q.length m))) : MostIs q rd P (mostTo q p (setsL q rd)) := by
  have hset : ∀ l, SaleL q rd l → ∃ m, m ∈ setsL q rd ∧ m < 2 ^ q.length ∧ bitsL q.length m = l := fun l hl => by
    obtain ⟨m, h1, rfl⟩ := bits_all q.length hn l hl.up fun i hi => hl.lt hi
    exact ⟨m, mem_setsTo.2 ⟨h1, hl⟩, h1, rfl⟩
  obtain ⟨h1, h2⟩ := mostTo_ge q p hq (setsL q rd)
  refine ⟨fun l hl hp => ?_, ?_⟩
  · obtain ⟨m, k1, k2, rfl⟩ := hset l hl
    exact h1 m k1 ((hP m k2).2 hp)
  · rcases h2 with ⟨e, h3⟩ | ⟨m, k1, k2, k3⟩
    · refine .inl ⟨e, fun l hl hp => ?_⟩
      obtain ⟨m, k1, k2, rfl⟩ := hset l hl
      exact h3 m k1 ((hP m k2).2 hp)
    · have k4 := mem_setsTo.1 k1
      exact .inr ⟨_, k4.2, (hP m k4.1).1 k2, k3⟩
/-- The winners' loop: the first best set, and what it brings. -/
instance aheadDec (p b : List Nat) : Decidable (aheadP p b) := inferInstanceAs (Decidable (p.length < b.length ∨ (p.length = b.length ∧ earlierN p b = true)))
def winStep (q : List Bid) (st : Nat × Int) (m : Nat) : Nat × Int :=
  if st.2 < bringsL q (bitsL q.length m) ∨ (bringsL q (bitsL q.length m) = st.2 ∧ aheadP (bitsL q.length m) (bitsL q.length st.1)) then (m, bringsL q (bitsL q.length m)) else st
def winTo (q : List Bid) (S : List Nat) : Nat × Int := S.foldl (winStep q) (0, -1)
theorem winTo_snoc (q : List Bid) (S : List Nat) (m : Nat) : winTo q (S ++ [m]) = winStep q (winTo q S) m := by
  unfold winTo; rw [List.foldl_append]; rfl
theorem winTo_ge (q : List Bid) (hq : ∀ b ∈ q, 0 ≤ b.pay) (S : List Nat) : (S = [] ∧ winTo q S = (0, -1)) ∨ ((winTo q S).1 ∈ S ∧ (winTo q S).2 = bringsL q (bitsL q.length (winTo q S).1) ∧ ∀ m ∈ S, bringsL q (bitsL q.length m) ≤ (winTo q S).2 ∧ (bringsL q (bitsL q.length m) = (winTo q S).2 → ¬ aheadP (bitsL q.length m) (bitsL q.length (winTo q S).1))) := by
  refine snoc_indN (P := fun S => (S = [] ∧ winTo q S = (0, -1)) ∨ ((winTo q S).1 ∈ S ∧ (winTo q S).2 = bringsL q (bitsL q.length (winTo q S).1) ∧ ∀ m ∈ S, bringsL q (bitsL q.length m) ≤ (winTo q S).2 ∧ (bringsL q (bitsL q.length m) = (winTo q S).2 → ¬ aheadP (bitsL q.length m) (bitsL q.length (winTo q S).1)))) (.inl ⟨rfl, rfl⟩) (fun S x h => .inr ?_) S
  rw [winTo_snoc]
  have h0 := brings_nonneg hq (bitsL q.length x)
  generalize winTo q S = st at h
  obtain ⟨b, n⟩ := st
  unfold winStep
  rcases h with ⟨rfl, e⟩ | ⟨h1, h2, h3⟩
  · cases e
    rw [if_pos (.inl (by show (-1 : Int) < _; omega))]
    exact ⟨by simp, rfl, fun m hm => by
      rw [List.nil_append, List.mem_singleton] at hm
      subst hm
      exact ⟨Int.le_refl _, fun _ => ahead_irr _⟩⟩
  · simp only at h1 h2 h3 ⊢
    by_cases hc : n < bringsL q (bitsL q.length x) ∨ (bringsL q (bitsL q.length x) = n ∧ aheadP (bitsL q.length x) (bitsL q.length b))
    · rw [if_pos hc]
      refine ⟨by simp, rfl, fun m hm => ?_⟩
      simp only
      rcases List.mem_append.1 hm with hm | hm
      · obtain ⟨k1, k2⟩ := h3 m hm
        rcases hc with hc | ⟨hc, ha⟩
        · exact ⟨by omega, fun e => by omega⟩
        · exact ⟨by omega, fun e hm2 => k2 (by omega) (ahead_trans hm2 ha)⟩
      · rw [List.mem_singleton.1 hm]
        exact ⟨Int.le_refl _, fun _ => ahead_irr _⟩
    · rw [if_neg hc]
      refine ⟨by simp [h1], h2, fun m hm => ?_⟩
      simp only
      rcases List.mem_append.1 hm with hm | hm
      · exact h3 m hm
      · rw [List.mem_singleton.1 hm]
        exact ⟨by
          apply Int.not_lt.1
          exact fun hh => hc (.inl hh), fun e ha => hc (.inr ⟨e, ha⟩)⟩
def winS (q : List Bid) (rd : List Int) : Nat := (winTo q (setsL q rd)).1
/-- The winners. -/
def winL (q : List Bid) (rd : List Int) : List Nat := bitsL q.length (winS q rd)
theorem win_of_sets {q : List Bid} {rd : List Int} (hn : q.length ≤ 8) (hq : ∀ b ∈ q, 0 ≤ b.pay) : winS q rd < 2 ^ q.length ∧ WinIs q rd (winL q rd) := by
  have h0 : 0 ∈ setsL q rd := mem_setsTo.2 ⟨Nat.pow_pos (by omega), by rw [bits_zero]; exact SaleL.nil q rd⟩
  rcases winTo_ge q hq (setsL q rd) with ⟨e, _⟩ | ⟨h1, h2, h3⟩
  · rw [e] at h0; simp at h0
  · obtain ⟨k1, k2⟩ := mem_setsTo.1 h1
    refine ⟨k1, k2, fun l hl => ?_, fun l hl he => ?_⟩
    · obtain ⟨m, j1, rfl⟩ := bits_all q.length hn l hl.up fun i hi => hl.lt hi
      have := (h3 m (mem_setsTo.2 ⟨j1, hl⟩)).1
      unfold winL winS
      rw [← h2]; exact this
    · obtain ⟨m, j1, rfl⟩ := bits_all q.length hn l hl.up fun i hi => hl.lt hi
      exact (h3 m (mem_setsTo.2 ⟨j1, hl⟩)).2 (by unfold winL winS at he; rw [h2]; exact he)
def allM (_ : Nat) : Bool := true
/-- What the best sales bring. -/
def mostV (q : List Bid) (rd : List Int) : Int := mostTo q allM (setsL q rd)
theorem mostV_is {q : List Bid} {rd : List Int} (hn : q.length ≤ 8) (hq : ∀ b ∈ q, 0 ≤ b.pay) : MostIs q rd (fun _ => True) (mostV q rd) := most_of_sets hn hq fun _ _ => ⟨fun _ => trivial, fun _ => rfl⟩
theorem mostV_win {q : List Bid} {rd : List Int} (hn : q.length ≤ 8) (hq : ∀ b ∈ q, 0 ≤ b.pay) : mostV q rd = bringsL q (winL q rd) := (mostV_is hn hq).unique (win_of_sets hn hq).2.most
/-- The most without a buyer. -/
def noneM (q : List Bid) (v : Int) (m : Nat) : Bool := !(bitsL 8 m).any (ownP q v)
def noneV (q : List Bid) (rd : List Int) (v : Int) : Int := mostTo q (noneM q v) (setsL q rd)
theorem noneV_is {q : List Bid} {rd : List Int} {v : Int} (hn : q.length ≤ 8) (hq : ∀ b ∈ q, 0 ≤ b.pay) : MostIs q rd (NoneOf q v) (noneV q rd v) := most_of_sets hn hq fun m hm => by
  unfold noneM NoneOf
  rw [bits_eight hn hm, Bool.not_eq_true', ← Bool.not_eq_true, List.any_eq_true]
  exact ⟨fun h i hi ho => h ⟨i, hi, ho⟩, fun h ⟨i, hi, ho⟩ => h i hi ho⟩
/-- What a buyer pays. -/
def payV (q : List Bid) (rd : List Int) (v : Int) : Int := if (winL q rd).any (ownP q v) = true then noneV q rd v - othersL q v (winL q rd) else 0
theorem payV_eq {q : List Bid} {rd : List Int} (hn : q.length ≤ 8) (hq : ∀ b ∈ q, 0 ≤ b.pay) (v : Int) : payV q rd v = noneV q rd v - othersL q v (winL q rd) := by
  unfold payV
  split
  · rfl
  · rename_i h
    rw [pays_none (win_of_sets hn hq).2 (noneV_is hn hq) fun i hi ho => h (List.any_eq_true.2 ⟨i, hi, ho⟩)]
/-- What the first n buyers pay together. -/
def paidTo (q : List Bid) (rd : List Int) : Nat → Int
  | 0 => 0
  | n + 1 => paidTo q rd n + payV q rd n
theorem payV_bd {q : List Bid} {rd : List Int} (hn : q.length ≤ 8) (hq : ∀ b ∈ q, 0 ≤ b.pay) (v : Int) : 0 ≤ payV q rd v ∧ payV q rd v ≤ ownL q v (winL q rd) := by
  have := pays_bd (win_of_sets (rd := rd) hn hq).2 (noneV_is (rd := rd) (v := v) hn hq)
  rw [payV_eq hn hq]
  omega
theorem paidTo_bd {q : List Bid} {rd : List Int} (hn : q.length ≤ 8) (hq : ∀ b ∈ q, 0 ≤ b.pay) : ∀ n, 0 ≤ paidTo q rd n ∧ paidTo q rd n ≤ ownTo q (winL q rd) n
  | 0 => ⟨Int.le_refl _, Int.le_refl _⟩
  | n + 1 => by
    have h1 := paidTo_bd hn hq (rd := rd) n
    have h2 := payV_bd hn hq (rd := rd) (n : Int)
    rw [ownTo_succ]
    unfold paidTo
    omega

/-! When. -/
/-- The first of the days 0 to 20 on which g is what it is on the day 20. -/
structure WhenIs (g : Nat → Int) (d : Nat) : Prop where
  le : d ≤ 20
  at_ : g 20 ≤ g d
  first : ∀ e, e < d → g e < g 20
theorem WhenIs.unique {g : Nat → Int} {d e : Nat} (h : WhenIs g d) (k : WhenIs g e) : d = e := by
  rcases Nat.lt_trichotomy d e with x | x | x
  · have := k.first d x; have := h.at_; omega
  · exact x
  · have := h.first e x; have := k.at_; omega
end Go.Proofs.Ytmbcpmnigggbaaa
namespace Go.Proofs.Ytmbcpmnigggbaaa
open Go.RowKit

/-! A fair at work: open 66. -/
theorem MaskOf.congr {l m : List Int} {u : Nat} (h : MaskOf l u) (e : ∀ i : Nat, i < 4 → ((i : Int) ∈ l ↔ (i : Int) ∈ m)) : MaskOf m u := ⟨h.lt, fun i hi => (h.bit i hi).trans (e i hi)⟩
/-- What is ready, ascending. -/
def readyL (h : House) (pk : List Int) (day : Int) : List Int := ((List.range h.bs.length).map fun i : Nat => (i : Int)).filter fun b => decide (b ∈ pk) && dOK h pk day b
theorem mem_readyL {h : House} {pk : List Int} {day b : Int} : b ∈ readyL h pk day ↔ (0 ≤ b ∧ b < h.bs.length) ∧ b ∈ pk ∧ dOK h pk day b = true := by
  unfold readyL
  rw [List.mem_filter, Bool.and_eq_true, decide_eq_true_eq, List.mem_map]
  constructor
  · rintro ⟨⟨i, hi, rfl⟩, h2⟩
    rw [List.mem_range] at hi
    exact ⟨⟨by omega, by omega⟩, h2⟩
  · rintro ⟨h1, h2⟩
    exact ⟨⟨b.toNat, List.mem_range.2 (by omega), by omega⟩, h2⟩
theorem ready_mask {h : House} {pk : List Int} {day : Int} {u : Nat} (hg : goodB h pk = true) (hu : MaskOf (pk.filter (dOK h pk day)) u) : MaskOf (readyL h pk day) u :=
  hu.congr fun i hi => by
    rw [List.mem_filter, mem_readyL]
    constructor
    · rintro ⟨h1, h2⟩; exact ⟨(goodB_parts hg).2.1 _ h1, h1, h2⟩
    · rintro ⟨_, h1, h2⟩; exact ⟨h1, h2⟩
/-- A lot: buyer, barrels as bits, pence. -/
def lotCells : List (Int × Nat × Int) → List Value
  | [] => []
  | x :: xs => .int .i64 x.1 :: .int .i64 (x.2.1 : Int) :: .int .i64 x.2.2 :: lotCells xs
theorem lotCells_app : ∀ a b, lotCells (a ++ b) = lotCells a ++ lotCells b
  | [], b => rfl
  | x :: a, b => by simp only [List.cons_append, lotCells, lotCells_app a b]
theorem lotCells_at : ∀ (l : List (Int × Nat × Int)) (i : Nat) (x : Int × Nat × Int), l[i]? = some x → (lotCells l)[i * 3]? = some (.int .i64 x.1) ∧ (lotCells l)[i * 3 + 1]? = some (.int .i64 (x.2.1 : Int)) ∧ (lotCells l)[i * 3 + 2]? = some (.int .i64 x.2.2)
  | [], i, x, h => by simp at h
  | y :: ys, 0, x, h => by simp at h; subst h; exact ⟨rfl, rfl, rfl⟩
  | y :: ys, i + 1, x, h => by
    have := lotCells_at ys i x (by simpa using h)
    have e : (i + 1) * 3 = i * 3 + 1 + 1 + 1 := by omega
    rw [e]
    simp only [lotCells, List.getElem?_cons_succ]
    exact this
/-- The lots of the first bids. -/
structure LotsOf (q : List Bid) (ls : List (Int × Nat × Int)) : Prop where
  len : ls.length = q.length
  at_ : ∀ (i : Nat) (x : Bid), q[i]? = some x → ∃ m, ls[i]? = some (x.who, m, x.pay) ∧ MaskOf x.bar m
theorem LotsOf.nil : LotsOf [] [] := ⟨rfl, fun i x h => by simp at h⟩
theorem LotsOf.snoc {q : List Bid} {ls : List (Int × Nat × Int)} (h : LotsOf q ls) {x : Bid} {m : Nat} (hm : MaskOf x.bar m) : LotsOf (q ++ [x]) (ls ++ [(x.who, m, x.pay)]) := by
  refine ⟨by simp [h.len], fun i y hy => ?_⟩
  by_cases hi : i < q.length
  · rw [List.getElem?_append_left hi] at hy
    obtain ⟨m', h1, h2⟩ := h.at_ i y hy
    exact ⟨m', by rw [List.getElem?_append_left (by rw [h.len]; exact hi)]; exact h1, h2⟩
  · have hlt := (List.getElem?_eq_some_iff.1 hy).1
    have e : i = q.length := by simp at hlt; omega
    subst e
    rw [List.getElem?_append_right (Nat.le_refl _), Nat.sub_self] at hy
    simp at hy; subst hy
    exact ⟨m, by rw [← h.len, List.getElem?_append_right (Nat.le_refl _), Nat.sub_self]; rfl, hm⟩
def OwnsL (W : World) (base : Nat) (v : Value) (ls : List (Int × Nat × Int)) : Prop := W.ownsRow base 191 3 v ls.length (lotCells ls)
theorem ownsL_nil (W : World) (base : Nat) : OwnsL W base (.slice none 0 0) [] := World.ownsRow_nil W base 191 3
theorem OwnsL.below_ {W W' : World} {base n : Nat} {v : Value} {l : List (Int × Nat × Int)} (h : OwnsL W base v l) (hb : Below n W W') (hn : W.heap.size ≤ n) : OwnsL W' base v l := by
  refine ⟨h.1, ?_⟩
  rcases h.2 with h2 | ⟨g, cap, cur, e, hb2, hg, h4⟩
  · exact .inl h2
  · exact .inr ⟨g, cap, cur, e, hb2, (hb.block g (Nat.lt_of_lt_of_le (Array.getElem?_eq_some_iff.1 hg).1 hn)).trans hg, h4⟩
theorem OwnsL.set_other {W : World} {base s o : Nat} {u v : Value} {l : List (Int × Nat × Int)} (h : OwnsL W base v l) (hs : s < base) : OwnsL (W.setCell ⟨s, o, none⟩ u) base v l := by
  refine ⟨h.1, ?_⟩
  rcases h.2 with h2 | ⟨g, cap, cur, e, hb2, hg, h4⟩
  · exact .inl h2
  · exact .inr ⟨g, cap, cur, e, hb2, (set_other_heap (heap_lt hg) (by omega)).trans hg, h4⟩
/-- The lots lie at A. -/
def LotsAt (W : World) (B : Nat) (A : Option Addr) (q : List Bid) : Prop :=
  q = [] ∨ ∃ b off, A = some ⟨b, off, none⟩ ∧ b < B ∧ ∀ (i : Nat) (x : Bid), q[i]? = some x → ∃ m : Nat, MaskOf x.bar m ∧ W.cell? ⟨b, off + i * 3, none⟩ = some (.int .i64 x.who) ∧ W.cell? ⟨b, off + i * 3 + 1, none⟩ = some (.int .i64 (m : Int)) ∧ W.cell? ⟨b, off + i * 3 + 2, none⟩ = some (.int .i64 x.pay)
theorem LotsAt.keep {W W' : World} {B B' : Nat} {A : Option Addr} {q : List Bid} (h : LotsAt W B A q) (hB : B ≤ B') (hk : ∀ b o, b < B → W'.cell? ⟨b, o, none⟩ = W.cell? ⟨b, o, none⟩) : LotsAt W' B' A q := by
  rcases h with h | ⟨b, off, e, hb, h⟩
  · exact .inl h
  · refine .inr ⟨b, off, e, by omega, fun i x hx => ?_⟩
    rw [hk _ _ hb, hk _ _ hb, hk _ _ hb]
    exact h i x hx
theorem LotsAt.at_ {W : World} {B : Nat} {A : Option Addr} {q : List Bid} (h : LotsAt W B A q) {i : Nat} {x : Bid} (hx : q[i]? = some x) : ∃ b off, A = some ⟨b, off, none⟩ ∧ b < B ∧ ∃ m : Nat, MaskOf x.bar m ∧ W.cell? ⟨b, off + i * 3, none⟩ = some (.int .i64 x.who) ∧ W.cell? ⟨b, off + i * 3 + 1, none⟩ = some (.int .i64 (m : Int)) ∧ W.cell? ⟨b, off + i * 3 + 2, none⟩ = some (.int .i64 x.pay) := by
  rcases h with h | ⟨b, off, e, hb, h⟩
  · subst h; simp at hx
  · exact ⟨b, off, e, hb, h i x hx⟩
theorem OwnsL.lay {W : World} {base : Nat} {v : Value} {q : List Bid} {ls : List (Int × Nat × Int)} (h : OwnsL W base v ls) (hq : LotsOf q ls) : ∃ A c, v = .slice A q.length c ∧ LotsAt W W.heap.size A q ∧ ∀ g, A = some g → base ≤ g.block := by
  rcases h.2 with ⟨rfl, h0⟩ | ⟨g, cap, cur, rfl, hb, hg, h4, h5, h6, h7⟩
  · rw [hq.len] at h0
    exact ⟨none, 0, by rw [h0], .inl (List.length_eq_zero_iff.1 h0), fun g e => by cases e⟩
  · refine ⟨some ⟨g, 0, none⟩, cap, by rw [hq.len], .inr ⟨g, 0, rfl, (Array.getElem?_eq_some_iff.1 hg).1, fun i x hx => ?_⟩, fun g' e => by cases e; exact hb⟩
    obtain ⟨m, hm, hM⟩ := hq.at_ i x hx
    obtain ⟨d1, d2, d3⟩ := lotCells_at ls i _ hm
    have c1 := World.ownsRow.cells h (g := g) rfl _ _ d1
    have c2 := World.ownsRow.cells h (g := g) rfl _ _ d2
    have c3 := World.ownsRow.cells h (g := g) rfl _ _ d3
    rw [addr_add] at c1 c2 c3
    exact ⟨m, hM, c1, c2, c3⟩
theorem info102 : (Try.prog.info? 191).map (fun i => (i.zero, i.size, i.bytes)) = some (some (.agg #[.int .i64 0, .int .i64 0, .int .i64 0]), 3, 24) := by kernel_rfl
/-- 'append(lots, l)' at a step of a region that draws its order. -/
theorem step_appL {ops : Array Oper} {o : Oper} {a : Act} {w : World} {K : Act → World → Prop} {Q : Exit → Act → World → Prop} {E : Prop} (hgd : o.guard = none) (s x : Operand)
    (ho : o.op = .call { callee := .builtin .append, args := #[s, x], argTypes := #[187, 187] }) (n₀ : Nat) (v : Value) (l : List (Int × Nat × Int)) (hs : a.eval s = v) (hown : OwnsL w n₀ v l)
    (g : Nat) (c : Nat) (k : Int × Nat × Int) (hx : a.eval x = .slice (some ⟨g, 0, none⟩) 1 c) (h0 : w.cell? ⟨g, 0, none⟩ = some (.int .i64 k.1)) (h1 : w.cell? ⟨g, 1, none⟩ = some (.int .i64 (k.2.1 : Int))) (h2 : w.cell? ⟨g, 2, none⟩ = some (.int .i64 k.2.2)) (hl : l.length ≤ 1000) (hn : n₀ ≤ w.heap.size)
    (h : ∀ v' w', OwnsL w' n₀ v' (l ++ [k]) → Below n₀ w w' → K (a.put o.dst v') w') :
    if Region.wanted o (yielded ops a.tmps) = true then Oper.wp Try.prog o a w K Q else E := by
  have hw : Region.wanted o (yielded ops a.tmps) = true := by simp [Region.wanted, hgd]
  rw [if_pos hw]
  obtain ⟨i0, hi, hz0, hz1, hz2⟩ := info_parts info102
  refine wp_append_own w s x 187 ho n₀ 191 i0 _ 3 24 Try.underlying187 hi hz0 hz1 hz2 rfl (by decide) v l.length _ hs hown ⟨g, 0, none⟩ 1 c [.int .i64 k.1, .int .i64 (k.2.1 : Int), .int .i64 k.2.2] hx rfl ?_ ?_ ?_ ?_ hn ?_
  · intro j u hj
    match j, hj with
    | 0, hj => simp at hj; subst hj; exact h0
    | 1, hj => simp at hj; subst hj; exact h1
    | 2, hj => simp at hj; subst hj; exact h2
  · intro u hu
    simp at hu
    rcases hu with rfl | rfl | rfl <;> rfl
  · unfold maxLen; omega
  · omega
  · intro v' w' g2 g3 _
    refine h v' w' ?_ (own_below hown g3 hn (Nat.le_refl _))
    unfold OwnsL
    rw [List.length_append, lotCells_app]
    exact g2
/-- The box of a fair at work. -/
def OBox (W : World) (b : Nat) (F : FL) (f : Fair) (v : Value) (u : Nat) : Prop := W.heap[b]? = some (.cells #[.slice F.L.Ak f.h.ks.length F.L.ck, .int .i64 f.h.fl, .slice F.L.Ap f.h.ps.length F.L.cp, .slice F.L.Ab f.h.bs.length F.L.cb, .slice F.Ap f.pk.length F.cp, .int .i64 f.day, .int .i64 f.nb, .slice F.Aq f.q.length F.cq, v, .int .i64 (u : Int)] 189 (0, 0))
theorem OBox.cells {W : World} {b : Nat} {F : FL} {f : Fair} {v : Value} {u : Nat} (hb : OBox W b F f v u) : W.cell? ⟨b, 0, none⟩ = some (.slice F.L.Ak f.h.ks.length F.L.ck) ∧ W.cell? ⟨b, 1, none⟩ = some (.int .i64 f.h.fl) ∧ W.cell? ⟨b, 2, none⟩ = some (.slice F.L.Ap f.h.ps.length F.L.cp) ∧ W.cell? ⟨b, 3, none⟩ = some (.slice F.L.Ab f.h.bs.length F.L.cb) ∧ W.cell? ⟨b, 4, none⟩ = some (.slice F.Ap f.pk.length F.cp) ∧ W.cell? ⟨b, 5, none⟩ = some (.int .i64 f.day) ∧ W.cell? ⟨b, 6, none⟩ = some (.int .i64 f.nb) ∧ W.cell? ⟨b, 7, none⟩ = some (.slice F.Aq f.q.length F.cq) ∧ W.cell? ⟨b, 8, none⟩ = some v ∧ W.cell? ⟨b, 9, none⟩ = some (.int .i64 (u : Int)) := by
  simp [World.cell?, show W.heap[b]? = _ from hb]
theorem OBox.of {W W' : World} {b : Nat} {F : FL} {f : Fair} {v : Value} {u : Nat} (hb : OBox W b F f v u) (e : W'.heap[b]? = W.heap[b]?) : OBox W' b F f v u := e.trans hb
theorem OBox.lt {W : World} {b : Nat} {F : FL} {f : Fair} {v : Value} {u : Nat} (hb : OBox W b F f v u) : b < W.heap.size := heap_lt hb
theorem OBox.set8 {W : World} {b : Nat} {F : FL} {f : Fair} {v : Value} {u : Nat} (hb : OBox W b F f v u) (x : Value) : OBox (W.setCell ⟨b, 8, none⟩ x) b F f x u := by
  unfold OBox; rw [heap_set x hb]; simp
theorem OBox.set9 {W : World} {b : Nat} {F : FL} {f : Fair} {v : Value} {u : Nat} (hb : OBox W b F f v u) (x : Nat) : OBox (W.setCell ⟨b, 9, none⟩ (.int .i64 (x : Int))) b F f v x := by
  unfold OBox; rw [heap_set _ hb]; simp
theorem OBox.uniq {W : World} {b : Nat} {F : FL} {f : Fair} {v v' : Value} {u u' : Nat} (h : OBox W b F f v u) (k : OBox W b F f v' u') : v = v' := by
  have h1 := h.cells.2.2.2.2.2.2.2.2.1
  have h2 := k.cells.2.2.2.2.2.2.2.2.1
  rw [h1] at h2
  exact Option.some.inj h2
/-- A fair at work: what is ready is rd. -/
structure OpenAt (W : World) (b : Nat) (F : FL) (f : Fair) (rd : List Int) : Prop where
  ex : ∃ A c u, OBox W b F f (.slice A f.q.length c) u ∧ LotsAt W W.heap.size A f.q ∧ MaskOf rd u
  ne : ∀ A c u, OBox W b F f (.slice A f.q.length c) u → ∀ g, A = some g → g.block ≠ b
theorem OpenAt.lt {W : World} {b : Nat} {F : FL} {f : Fair} {rd : List Int} (h : OpenAt W b F f rd) : b < W.heap.size := by
  obtain ⟨A, c, u, h1, _⟩ := h.ex
  exact h1.lt
theorem OpenAt.below {W W' : World} {b : Nat} {F : FL} {f : Fair} {rd : List Int} (h : OpenAt W b F f rd) (hb : Below W.heap.size W W') : OpenAt W' b F f rd := by
  obtain ⟨A, c, u, h1, h2, h3⟩ := h.ex
  exact ⟨⟨A, c, u, h1.of (hb.block _ h1.lt), h2.keep hb.size fun b o hlt => hb.cell (p := ⟨b, o, none⟩) hlt, h3⟩, fun A c u hO => h.ne A c u (hO.of (hb.block _ h1.lt).symm)⟩
/-- The error of a fair that is asked for something. -/
def askF (f : Fair) (is : Bool) : Int := if validF f = false then 90 else if is = false then 1 else 0
theorem askF_ok {f : Fair} {is : Bool} (h : askF f is = 0) : validF f = true ∧ is = true := by
  unfold askF at h
  split at h
  · cases h
  · split at h
    · cases h
    · rename_i h1 h2; exact ⟨by simpa using h1, by simpa using h2⟩
theorem askF_bad {f : Fair} (is : Bool) (h : validF f = false) : askF f is = 90 := if_pos h
theorem askF_arg {f : Fair} (h : validF f = true) : askF f false = 1 := by unfold askF; rw [if_neg (by simp [h]), if_pos rfl]
theorem askF_yes {f : Fair} (h : validF f = true) : askF f true = 0 := by unfold askF; rw [if_neg (by simp [h]), if_neg (by simp)]
/-- What a valid fair is. -/
structure FOK (f : Fair) : Prop where
  h : validH f.h = true
  p : goodB f.h f.pk = true
  d0 : 0 ≤ f.day
  d1 : f.day ≤ 20
  n0 : 0 ≤ f.nb
  n1 : f.nb ≤ 4
  ql : f.q.length ≤ 8
  bl : f.h.bs.length ≤ 4
  who : ∀ b ∈ f.q, 0 ≤ b.who ∧ b.who < f.nb
  pay : ∀ b ∈ f.q, 0 ≤ b.pay ∧ b.pay ≤ 99
  ne : ∀ b ∈ f.q, b.bar ≠ []
  bar : ∀ b ∈ f.q, ∀ x ∈ b.bar, 0 ≤ x ∧ x < f.h.bs.length
theorem FOK.of {f : Fair} (h : validF f = true) : FOK f := by
  unfold validF packOK numsOK at h
  simp only [Bool.and_eq_true, inR_true, decide_eq_true_eq, List.all_eq_true] at h
  obtain ⟨⟨h1, h2⟩, ⟨h3, h4, h5⟩, h6⟩ := h
  have hb := (HOK.ofValid h1).bl
  have hq : ∀ b ∈ f.q, (0 ≤ b.who ∧ b.who ≤ f.nb - 1) ∧ (0 ≤ b.pay ∧ b.pay ≤ 99) ∧ b.bar ≠ [] ∧ riseB b.bar f.h.bs.length = true := fun b hb => by
    have := h6 b hb
    simpa only [bidOK, Bool.and_eq_true, inR_true, decide_eq_true_eq] using this
  exact ⟨h1, h2, h3.1, h3.2, h4.1, h4.2, h5, hb, fun b hb => by have := (hq b hb).1; omega, fun b hb => (hq b hb).2.1, fun b hb => (hq b hb).2.2.1, fun b hb => riseB_in (hq b hb).2.2.2⟩
theorem FOK.pos {f : Fair} (h : FOK f) : ∀ b ∈ f.q, 0 ≤ b.pay := fun b hb => (h.pay b hb).1
theorem open_no (F : FL) (f : Fair) (is : Bool) (hn : FN f) (w : World) (hF : FairAt w w.heap.size F f) (h : askF f is ≠ 0) :
    Calls Try.prog 89 #[F.enc f, .bool is] w fun e w' => e = .returned (.tuple #[.pointer none, .int .i64 (askF f is)]) ∧ Below w.heap.size w w' := by
  have hbw := al_below w (.cells #[.slice F.L.Ak f.h.ks.length F.L.ck, .int .i64 f.h.fl, .slice F.L.Ap f.h.ps.length F.L.cp, .slice F.L.Ab f.h.bs.length F.L.cb, .slice F.Ap f.pk.length F.cp, .int .i64 f.day, .int .i64 f.nb, .slice F.Aq f.q.length F.cq] 62)
  have HB := Lib.hid (FBox.new w F f)
  obtain ⟨c0, c1, c2, c3, c4, c5, c6, c7⟩ := (FBox.new w F f).cells
  obtain ⟨W0, hW0⟩ : ∃ W0, w.alloc (.cells #[.slice F.L.Ak f.h.ks.length F.L.ck, .int .i64 f.h.fl, .slice F.L.Ap f.h.ps.length F.L.cp, .slice F.L.Ab f.h.bs.length F.L.cb, .slice F.Ap f.pk.length F.cp, .int .i64 f.day, .int .i64 f.nb, .slice F.Aq f.q.length F.cq] 62) = W0 := ⟨_, rfl⟩
  rw [hW0] at hbw HB c0 c1 c2 c3 c4 c5 c6 c7
  have HBW := Lib.hid hbw
  have HW0 := Lib.hid hW0
  have HF := Lib.hid (hF.below hbw)
  clear hbw hW0 hF
  have HC := Lib.hid (scheck_any F f hn W0 HF.out)
  clear hn
  cases hv : validF f
  · rw [ckF_no hv] at HC
    rw [askF_bad is hv]
    clear hv h
    go_enter Try.func89, Try.ntmps89
    go_upto_region 1 with (fail)
    have e := HW0.out
    rw [e]
    clear e
    go_wp2_with (go_at_call 138; refine HC.out.mono ?_; rintro e w1 ⟨rfl, hb1⟩; have B1 := Lib.hid hb1; clear hb1)
    go_ret2
    exact ⟨rfl, hb0to HBW.out B1.out⟩
  · rw [ckF_yes hv] at HC
    cases is with
    | true => exact absurd (askF_yes hv) h
    | false =>
      rw [askF_arg hv]
      clear hv h
      go_enter Try.func89, Try.ntmps89
      go_upto_region 1 with (fail)
      have e := HW0.out
      rw [e]
      clear e
      go_wp2_with (go_at_call 138; refine HC.out.mono ?_; rintro e w1 ⟨rfl, hb1⟩; have B1 := Lib.hid hb1; clear hb1)
      go_ret2
      exact ⟨rfl, hb0to HBW.out B1.out⟩

open Go.RowKit

theorem OwnsL.slice {W : World} {base : Nat} {v : Value} {ls : List (Int × Nat × Int)} (h : OwnsL W base v ls) : ∃ A c, v = .slice A ls.length c := by
  rcases h.2 with ⟨rfl, h0⟩ | ⟨g, cap, cur, rfl, hb, hg, h4, h5, h6, h7⟩
  · exact ⟨none, 0, by rw [h0]⟩
  · exact ⟨_, _, rfl⟩
theorem rows_below1 (w : World) (o : Obj) : Below w.heap.size w (w.alloc o).drew := ((Below.refl _ _).alloc (Nat.le_refl _) o).drew
/-- A lot under way: its block. -/
def LBox (W : World) (g : Nat) (x : Bid) (m : Nat) : Prop := W.heap[g]? = some (.cells #[.int .i64 x.who, .int .i64 (m : Int), .int .i64 x.pay] 191 (0, 0))
theorem LBox.cells {W : World} {g : Nat} {x : Bid} {m : Nat} (h : LBox W g x m) : W.cell? ⟨g, 0, none⟩ = some (.int .i64 x.who) ∧ W.cell? ⟨g, 1, none⟩ = some (.int .i64 (m : Int)) ∧ W.cell? ⟨g, 2, none⟩ = some (.int .i64 x.pay) := by
  simp [World.cell?, show W.heap[g]? = _ from h]
theorem LBox.fz {W : World} {g : Nat} {x : Bid} {m : Nat} (h : LBox W g x m) (o : Nat) : W.frozen? ⟨g, o, none⟩ = false := frozen_of_heap h o
theorem LBox.set {W : World} {g : Nat} {x : Bid} {m : Nat} (h : LBox W g x m) (n : Nat) : LBox (W.setCell ⟨g, 1, none⟩ (.int .i64 (n : Int))) g x n := by
  unfold LBox; rw [heap_set _ h]; simp
set_option maxRecDepth 100000 in
set_option maxHeartbeats 4000000 in
theorem open_yes (F : FL) (f : Fair) (is : Bool) (hn : FN f) (w : World) (hF : FairAt w w.heap.size F f) (h : askF f is = 0) :
    Calls Try.prog 89 #[F.enc f, .bool is] w fun e w' => (∃ b, e = .returned (.tuple #[.pointer (some ⟨b, 0, none⟩), .int .i64 0]) ∧ w.heap.size ≤ b ∧ OpenAt w' b F f (readyL f.h f.pk f.day)) ∧ Below w.heap.size w w' := by
  have hbw := al_below w (.cells #[.slice F.L.Ak f.h.ks.length F.L.ck, .int .i64 f.h.fl, .slice F.L.Ap f.h.ps.length F.L.cp, .slice F.L.Ab f.h.bs.length F.L.cb, .slice F.Ap f.pk.length F.cp, .int .i64 f.day, .int .i64 f.nb, .slice F.Aq f.q.length F.cq] 62)
  have HB := Lib.hid (FBox.new w F f)
  obtain ⟨c0, c1, c2, c3, c4, c5, c6, c7⟩ := (FBox.new w F f).cells
  obtain ⟨W0, hW0⟩ : ∃ W0, w.alloc (.cells #[.slice F.L.Ak f.h.ks.length F.L.ck, .int .i64 f.h.fl, .slice F.L.Ap f.h.ps.length F.L.cp, .slice F.L.Ab f.h.bs.length F.L.cb, .slice F.Ap f.pk.length F.cp, .int .i64 f.day, .int .i64 f.nb, .slice F.Aq f.q.length F.cq] 62) = W0 := ⟨_, rfl⟩
  rw [hW0] at hbw HB c0 c1 c2 c3 c4 c5 c6 c7
  have HBW := Lib.hid hbw
  have HW0 := Lib.hid hW0
  have HF := Lib.hid (hF.below hbw)
  clear hbw hW0 hF
  have HC := Lib.hid (scheck_any F f hn W0 HF.out)
  obtain ⟨hv, rfl⟩ := askF_ok h
  rw [ckF_yes hv] at HC
  have hfo := FOK.of hv
  have H98 := Lib.hid (fun W hW hP => ready_any F f hn hfo.h f.pk hfo.p F.Ap F.cp f.day W hW hP)
  have HFO := Lib.hid hfo
  have hql := hfo.ql
  have HN := Lib.hid hn
  clear hn hv h hfo
  obtain ⟨L, Ap, cp, Aq, cq⟩ := F
  go_enter Try.func89, Try.ntmps89
  go_upto_region 1 with (fail)
  have e := HW0.out
  rw [e]
  clear e
  go_wp2_with (go_at_call 138; refine HC.out.mono ?_; rintro e w1 ⟨rfl, hb1⟩; have B1 := Lib.hid hb1; obtain ⟨r0, r1, r2, r3, r4, r5, r6, r7⟩ := (HB.out.of (hb1.block _ HB.out.lt)).cells; clear hb1)
  go_region_held3 (fun w' => w'.cell? ⟨w.heap.size, 0, none⟩ = some (.slice L.Ak f.h.ks.length L.ck) ∧ w'.cell? ⟨w.heap.size, 1, none⟩ = some (.int .i64 f.h.fl) ∧ w'.cell? ⟨w.heap.size, 2, none⟩ = some (.slice L.Ap f.h.ps.length L.cp) ∧ w'.cell? ⟨w.heap.size, 3, none⟩ = some (.slice L.Ab f.h.bs.length L.cb) ∧ w'.cell? ⟨w.heap.size, 4, none⟩ = some (.slice Ap f.pk.length cp) ∧ w'.cell? ⟨w.heap.size, 5, none⟩ = some (.int .i64 f.day) ∧ w'.cell? ⟨w.heap.size, 6, none⟩ = some (.int .i64 f.nb) ∧ w'.cell? ⟨w.heap.size, 7, none⟩ = some (.slice Aq f.q.length cq)) (first | go_keep)
    (first
      | (go_at_call 139; refine (H98.out w1.drew (HF.out.below (hb0to B1.out (drew_below w1))) (HF.out.below (hb0to B1.out (drew_below w1))).p).mono ?_; rintro e w2 ⟨⟨u, rfl, hu⟩, hb2⟩; have B2 := Lib.hid (hb0to B1.out (hb0to (drew_below w1) hb2)); have HU := Lib.hid hu; obtain ⟨r0, r1, r2, r3, r4, r5, r6, r7⟩ := (HB.out.of (B2.out.block _ HB.out.lt)).cells; clear hb2 hu))
  all_goals
    have hob : OBox (w2.alloc (.cells #[.slice L.Ak f.h.ks.length L.ck, .int .i64 f.h.fl, .slice L.Ap f.h.ps.length L.cp, .slice L.Ab f.h.bs.length L.cb, .slice Ap f.pk.length cp, .int .i64 f.day, .int .i64 f.nb, .slice Aq f.q.length cq, .slice none 0 0, .int .i64 (u : Int)] 189)) w2.heap.size ⟨L, Ap, cp, Aq, cq⟩ f (.slice none 0 0) u := World.alloc_heap_new w2 _
    have hb3 := hb0to B2.out (al_below w2 (.cells #[.slice L.Ak f.h.ks.length L.ck, .int .i64 f.h.fl, .slice L.Ap f.h.ps.length L.cp, .slice L.Ab f.h.bs.length L.cb, .slice Ap f.pk.length cp, .int .i64 f.day, .int .i64 f.nb, .slice Aq f.q.length cq, .slice none 0 0, .int .i64 (u : Int)] 189))
    obtain ⟨W3, hW3⟩ : ∃ W3, w2.alloc (.cells #[.slice L.Ak f.h.ks.length L.ck, .int .i64 f.h.fl, .slice L.Ap f.h.ps.length L.cp, .slice L.Ab f.h.bs.length L.cb, .slice Ap f.pk.length cp, .int .i64 f.day, .int .i64 f.nb, .slice Aq f.q.length cq, .slice none 0 0, .int .i64 (u : Int)] 189) = W3 := ⟨_, rfl⟩
    rw [hW3] at hob hb3
    have hbo1 : W0.heap.size ≤ w2.heap.size := B2.out.size
    have HOB := Lib.hid hob
    have HB3 := Lib.hid hb3
    have HW3 := Lib.hid hW3
    have r7' := (HB.out.of (HB3.out.block _ HB.out.lt)).cells.2.2.2.2.2.2.2
    clear hob hb3 hW3 r0 r1 r2 r3 r4 r5 r6 r7 c0 c1 c2 c3 c4 c5 c6 c7
    have e := HW3.out
    rw [e]
    clear e
    go_wp2_with (fail)
    clear r7'
    go_loopw [32] (fun i wr => ∃ k : Nat, k ≤ f.q.length ∧ i = .int .i64 k ∧ (∃ v ls, OBox wr w2.heap.size ⟨L, Ap, cp, Aq, cq⟩ f v u ∧ OwnsL wr (w2.heap.size + 1) v ls ∧ Hid (LotsOf (f.q.take k) ls)) ∧ Hid (Below W0.heap.size W0 wr)) (fun i _ => f.q.length - (intOf i).toNat)
    case atStart => exact ⟨0, Nat.zero_le _, rfl, ⟨_, [], HOB.out, ownsL_nil _ _, Lib.hid LotsOf.nil⟩, HB3⟩
    case round =>
      obtain ⟨k, hk, rfl, ⟨v, ls, hO, hL, hls⟩, hb⟩ := hrel
      by_cases hlt : k < f.q.length
      · obtain ⟨x, hx⟩ : ∃ x, f.q[k]? = some x := ⟨_, List.getElem?_eq_getElem hlt⟩
        obtain ⟨bk, ok, A', c', rfl, hbk, d1, d2, d3, hA', hI⟩ := HF.out.q.at_ hx
        have e1 := below_cell hb.out d1
        have e2 := below_cell hb.out d2
        have e3 := below_cell hb.out d3
        have hxm := List.mem_of_getElem? hx
        have hbl := HN.out.b x hxm
        have HIN := Lib.hid (HFO.out.bar x hxm)
        have hb4 := HFO.out.bl
        have HX := Lib.hid hx
        have HI := Lib.hid hI
        have HO := Lib.hid hO
        have HL := Lib.hid hL
        have hobl : w2.heap.size < wr.heap.size := hO.lt
        clear d1 d2 d3 hA' hI hxm hx hO hL
        obtain ⟨wo, rfl⟩ : ∃ wo : World, wo = wr := ⟨_, rfl⟩
        go_wp2_with (fail)
        go_loopw [44] (fun i wq => ∃ j : Nat, j ≤ x.bar.length ∧ i = .int .i64 j ∧ (∃ m, LBox wq (wo.heap.size + 1) x m ∧ Hid (MaskOf (x.bar.take j) m)) ∧ Hid (Below wo.heap.size wo wq)) (fun i _ => x.bar.length - (intOf i).toNat)
        case atStart => exact ⟨0, Nat.zero_le _, rfl, ⟨0, heap_new2 _ _ _, Lib.hid MaskOf.nil⟩, Lib.hid (hb0to (al_below _ _) (al_below _ _))⟩
        case round =>
          obtain ⟨j, hj, rfl, ⟨m, hM, hm⟩, hbq⟩ := hrel
          by_cases hjl : j < x.bar.length
          · obtain ⟨y, hy⟩ : ∃ y, x.bar[j]? = some y := ⟨_, List.getElem?_eq_getElem hjl⟩
            obtain ⟨b1, o1, rfl, b1lt, t1⟩ := HI.out.at_ hy
            have u1 := below_cell (hb0to hb.out hbq.out) t1
            obtain ⟨yn, rfl⟩ := Int.eq_ofNat_of_zero_le (HIN.out y (List.mem_of_getElem? hy)).1
            have hyn : yn < 4 := by have := (HIN.out _ (List.mem_of_getElem? hy)).2; omega
            obtain ⟨k0, k1, k2⟩ := hM.cells
            have k3 := hM.fz 1
            have HT := Lib.hid (show x.bar.take (j + 1) = x.bar.take j ++ [(yn : Int)] from (take_snoc_next hy).symm)
            have HSH := Lib.hid (one_shl yn (by omega))
            have HOR := Lib.hid (or_bits m hm.out.lt (1 <<< yn) (shl_lt yn hyn))
            have HMX := Lib.hid hM
            clear t1 hy hM
            go_wp2_with (fail)
            go_region
            all_goals
              go_wp2_with (fail)
              go_roundw
              case rel => exact ⟨j + 1, by omega, by go_num, ⟨m ||| (1 <<< yn), (by have := HMX.out.set (m ||| (1 <<< yn)); rw [← HOR.out, ← HSH.out] at this; exact this), Lib.hid (by rw [HT.out]; exact hm.out.snoc hyn)⟩, Lib.hid (Below.drew (hbq.out.setCell (by show wo.heap.size ≤ wo.heap.size + 1; omega) _))⟩
              case measure => simp [intOf]; omega
          · obtain rfl : j = x.bar.length := by omega
            have hm2 := hm.out
            rw [List.take_length] at hm2
            have HMM := Lib.hid hm2
            obtain ⟨k0, k1, k2⟩ := hM.cells
            have HOq := Lib.hid (HO.out.of (hbq.out.block _ hobl))
            obtain ⟨_, _, _, _, _, _, _, _, o8, _⟩ := HOq.out.cells
            have hLq := HL.out.below_ hbq.out (Nat.le_refl _)
            have HLq := Lib.hid hLq
            have o9 := frozen_of_heap HOq.out 8
            clear hm2 hm hLq hM
            go_wp2_with (fail)
            have HLA := Lib.hid (HLq.out.below_ (rows_below1 wr (.cells #[.int .i64 x.who, .int .i64 (m : Int), .int .i64 x.pay] 191)) (Nat.le_refl _))
            have hll : ls.length ≤ 1000 := by have := hls.out.len; rw [List.length_take] at this; omega
            have hwz : w2.heap.size + 1 ≤ wr.heap.size := by have := hbq.out.size; omega
            have hne2 : ¬ w2.heap.size = wr.heap.size := by omega
            have hlt2 : w2.heap.size < wr.heap.size := by omega
            go_region_law (refine step_appL rfl (.tmp 59) (.tmp 61) (by rfl) (w2.heap.size + 1) v ls (by rfl) HLA.out wr.heap.size 1 (x.who, m, x.pay) (by rfl) (by simp [go_sem]) (by simp [go_sem]) (by simp [go_sem]) hll (by simp; omega) ?_; intro v' w' hown' hb'; obtain ⟨A9, c9, rfl⟩ := hown'.slice; have hO' : OBox w' w2.heap.size ⟨L, Ap, cp, some ⟨bk, ok, none⟩, cq⟩ f v u := HOq.out.of ((hb'.block _ (Nat.lt_succ_self _)).trans (Below.heap_alloc _ _ _ HOq.out.lt)); have p8 := hO'.cells.2.2.2.2.2.2.2.2.1; have p9 := frozen_of_heap hO' 8)
            all_goals
              have hTK := (take_snoc_next HX.out).symm
              have hown2 : OwnsL w' (w2.heap.size + 1) (.slice A9 (ls.length + 1) c9) (ls ++ [(x.who, m, x.pay)]) := by have h := hown'; rw [List.length_append] at h; exact h
              go_wp2_with (fail)
              go_roundw
              case rel => exact ⟨k + 1, by omega, by go_num, ⟨_, _, hO'.set8 _, hown2.set_other (Nat.lt_succ_self _), Lib.hid (by rw [hTK]; exact hls.out.snoc HMM.out)⟩, Lib.hid (((hb0to (hb0to hb.out hbq.out) (rows_below1 wr (.cells #[.int .i64 x.who, .int .i64 (m : Int), .int .i64 x.pay] 191))).trans (hb'.mono (by omega))).setCell (by show W0.heap.size ≤ w2.heap.size; omega) _)⟩
              case measure => simp [intOf]; omega
      · obtain rfl : k = f.q.length := by omega
        have hls2 := hls.out
        rw [List.take_length] at hls2
        obtain ⟨A, c, rfl, hAt, hge⟩ := hL.lay hls2
        have HGE := Lib.hid hge
        have HAT := Lib.hid hAt
        have HOO := Lib.hid hO
        clear hls hls2 hAt hL hO hge
        go_wp2_with (fail)
        go_ret2
        exact ⟨⟨w2.heap.size, rfl, Nat.le_trans HBW.out.size hbo1, ⟨⟨A, c, u, HOO.out, HAT.out, ready_mask HFO.out.p HU.out⟩, fun A' c' u' hO' g eg => by have e := HOO.out.uniq hO'; cases e; have := HGE.out g eg; omega⟩⟩, hb0to HBW.out hb.out⟩

end Go.Proofs.Ytmbcpmnigggbaaa
