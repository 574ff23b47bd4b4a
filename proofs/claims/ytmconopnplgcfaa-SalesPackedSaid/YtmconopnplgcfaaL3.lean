import Derived.Test.YtmconopnplgcfaaS4
namespace Go.Proofs.Ytmconopnplgcfaa
open Go.RowKit
/-! Plain lists: the parts of a barrel, its cask, and all lists with a barrel for each part. -/
def layAt (h : House) (c : Cask) (i : Int) : Cask := layC c (kindOf h (partOf h i.toNat)) (partOf h i.toNat)
/-- The cask with some parts. -/
def caskIn (h : House) (l : List Int) : Cask := l.foldl (layAt h) c0
theorem caskIn_snoc (h : House) (l : List Int) (i : Int) : caskIn h (l ++ [i]) = layAt h (caskIn h l) i := by simp [caskIn]
/-- The parts among the first k that are in a barrel. -/
def inTo (pack : List Int) (b : Int) : Nat → List Int
  | 0 => []
  | k + 1 => if barrelOf pack k = b then inTo pack b k ++ [(k : Int)] else inTo pack b k
def inOf (pack : List Int) (b : Int) : List Int := inTo pack b pack.length
theorem inTo_len (pack : List Int) (b : Int) : ∀ k, (inTo pack b k).length ≤ k
  | 0 => Nat.le_refl _
  | k + 1 => by
    have := inTo_len pack b k
    unfold inTo
    split
    · simp; omega
    · omega
theorem mem_inTo {pack : List Int} {b : Int} : ∀ {k : Nat} {i : Int}, i ∈ inTo pack b k ↔ ∃ j : Nat, i = (j : Int) ∧ j < k ∧ barrelOf pack j = b
  | 0, i => by simp [inTo]
  | k + 1, i => by
    unfold inTo
    split
    · rename_i hb
      rw [List.mem_append, mem_inTo]
      constructor
      · rintro (⟨j, h1, h2, h3⟩ | h)
        · exact ⟨j, h1, by omega, h3⟩
        · exact ⟨k, by simpa using h, by omega, hb⟩
      · rintro ⟨j, h1, h2, h3⟩
        by_cases e : j = k
        · right; subst e; simpa using h1
        · exact .inl ⟨j, h1, by omega, h3⟩
    · rename_i hb
      rw [mem_inTo]
      constructor
      · rintro ⟨j, h1, h2, h3⟩; exact ⟨j, h1, by omega, h3⟩
      · rintro ⟨j, h1, h2, h3⟩
        by_cases e : j = k
        · subst e; exact (hb h3).elim
        · exact ⟨j, h1, by omega, h3⟩

theorem casksTo_at (h : House) (pack : List Int) (b : Nat) (hb : b < 5) : ∀ k, (∀ j, j < k → -1 ≤ barrelOf pack j ∧ barrelOf pack j ≤ 4) → (casksTo h pack k).getD b c0 = caskIn h (inTo pack b k)
  | 0, _ => by
    simp only [casksTo, inTo, caskIn, List.foldl_nil]
    match b, hb with
    | 0, _ => rfl
    | 1, _ => rfl
    | 2, _ => rfl
    | 3, _ => rfl
    | 4, _ => rfl
  | k + 1, hr => by
    have ih := casksTo_at h pack b hb k (fun j hj => hr j (by omega))
    obtain ⟨r1, r2⟩ := hr k (by omega)
    unfold casksTo inTo
    by_cases hm : barrelOf pack k = -1
    · rw [if_pos hm, if_neg (by omega), ih]
    · rw [if_neg hm]
      by_cases hbb : barrelOf pack k = (b : Int)
      · rw [if_pos hbb, hbb, caskIn_snoc, ← ih]
        simp only [Int.toNat_natCast, List.getD]
        rw [List.getElem?_set_self (by rw [casksTo_len]; omega)]
        simp [layAt]
      · rw [if_neg hbb, ← ih]
        simp only [List.getD]
        rw [List.getElem?_set_ne (by omega)]

/-- All parts are parts of the house. -/
def PartsOK (h : House) (l : List Int) : Prop := ∀ i ∈ l, 0 ≤ i ∧ i < h.ps.length
theorem layAt_upto {h : House} (hv : HOK h) {c : Cask} {k : Nat} (hc : c.upto k) {i : Int} (hi : 0 ≤ i ∧ i < h.ps.length) : (layAt h c i).upto (k + 1) := by
  obtain ⟨kk, -, -, -, ⟨p2, p3⟩, k0, k1, k2, k3⟩ := hv.part (k := i.toNat) (by omega)
  obtain ⟨n0, n1, p0, p1, s0, s1, d0, d1⟩ := hc
  exact ⟨by simp only [layAt, layC]; omega, by simp only [layAt, layC]; omega, by simp only [layAt, layC]; omega, by simp only [layAt, layC]; omega, by simp only [layAt, layC]; omega, by simp only [layAt, layC]; omega, by simp only [layAt, layC]; omega, by simp only [layAt, layC]; omega⟩
theorem snoc_ind {α : Type} {P : List α → Prop} (h0 : P []) (h1 : ∀ l x, P l → P (l ++ [x])) (l : List α) : P l := by
  suffices h : ∀ l : List α, P l.reverse by simpa using h l.reverse
  intro l
  induction l with
  | nil => simpa using h0
  | cons x l ih => rw [List.reverse_cons]; exact h1 _ _ ih
theorem caskIn_upto {h : House} (hv : HOK h) (l : List Int) : PartsOK h l → (caskIn h l).upto l.length := by
  refine snoc_ind (P := fun l => PartsOK h l → (caskIn h l).upto l.length) ?_ ?_ l
  · intro _; exact ⟨by simp [caskIn, c0], by simp [caskIn, c0], by simp [caskIn, c0], by simp [caskIn, c0], by simp [caskIn, c0], by simp [caskIn, c0], by simp [caskIn, c0], by simp [caskIn, c0]⟩
  · intro l x ih hp
    rw [caskIn_snoc, List.length_append]
    exact layAt_upto hv (ih fun i hi => hp i (by simp [hi])) (hp x (by simp))
theorem inTo_parts {h : House} {pack : List Int} {b : Int} {k : Nat} (hk : k ≤ h.ps.length) : PartsOK h (inTo pack b k) := fun i hi => by
  obtain ⟨j, rfl, hj, -⟩ := mem_inTo.1 hi
  omega

/-- Pounds and salt of a barrel. -/
def needC (h : House) (l : List Int) : Int := (caskIn h l).p + saltC h.fl (caskIn h l)
/-- No barrel is over, with a list that may be too short. -/
def fitsR (h : House) (pack : List Int) : Bool := (List.range h.bs.length).all fun b => decide (needC h (inOf pack b) ≤ h.bs.getD b 0)
theorem fitsR_true {h : House} {pack : List Int} : fitsR h pack = true ↔ ∀ b, b < h.bs.length → needC h (inOf pack b) ≤ h.bs.getD b 0 := by
  simp [fitsR]

theorem barrelOf_app {a b : List Int} {j : Nat} (h : j < a.length) : barrelOf (a ++ b) j = barrelOf a j := by
  simp [barrelOf, List.getD, List.getElem?_append_left h]
theorem inTo_app {a b : List Int} {x : Int} : ∀ {k : Nat}, k ≤ a.length → inTo (a ++ b) x k = inTo a x k
  | 0, _ => rfl
  | k + 1, h => by
    unfold inTo
    rw [barrelOf_app (by omega), inTo_app (by omega)]
theorem inOf_snoc (a : List Int) (y x : Int) : inOf (a ++ [y]) x = if y = x then inOf a x ++ [(a.length : Int)] else inOf a x := by
  unfold inOf
  rw [List.length_append, List.length_singleton, inTo, inTo_app (Nat.le_refl _)]
  have : barrelOf (a ++ [y]) a.length = y := by simp [barrelOf, List.getD]
  rw [this]

/-- All lists of n numbers from lo up to nb - 1, the first one first. -/
def numsFrom (lo : Int) (nb : Nat) : List Int := (List.range ((nb : Int) - lo).toNat).map fun j : Nat => lo + (j : Int)
def allS (lo : Int) (nb : Nat) : Nat → List (List Int)
  | 0 => [[]]
  | n + 1 => (numsFrom lo nb).flatMap fun b => (allS lo nb n).map (b :: ·)
theorem mem_numsFrom {lo : Int} {nb : Nat} {x : Int} : x ∈ numsFrom lo nb ↔ lo ≤ x ∧ x < nb := by
  simp only [numsFrom, List.mem_map, List.mem_range]
  constructor
  · rintro ⟨j, hj, rfl⟩; omega
  · rintro ⟨h1, h2⟩; exact ⟨(x - lo).toNat, by omega, by omega⟩
theorem mem_allS {lo : Int} {nb : Nat} : ∀ {n : Nat} {l : List Int}, l ∈ allS lo nb n ↔ l.length = n ∧ ∀ x ∈ l, lo ≤ x ∧ x < nb
  | 0, l => by
    simp only [allS, List.mem_singleton]
    constructor
    · rintro rfl; simp
    · rintro ⟨h, -⟩; exact List.length_eq_zero_iff.1 h
  | n + 1, l => by
    simp only [allS, List.mem_flatMap, List.mem_map]
    constructor
    · rintro ⟨b, hb, t, ht, rfl⟩
      obtain ⟨h1, h2⟩ := mem_allS.1 ht
      refine ⟨by simp [h1], fun x hx => ?_⟩
      rcases List.mem_cons.1 hx with rfl | hx
      · exact mem_numsFrom.1 hb
      · exact h2 x hx
    · rintro ⟨h1, h2⟩
      match l, h1, h2 with
      | b :: t, h1, h2 => exact ⟨b, mem_numsFrom.2 (h2 b (by simp)), t, mem_allS.2 ⟨by simpa using h1, fun x hx => h2 x (by simp [hx])⟩, rfl⟩
/-! Casks by their parts: sums and greatest ones; with more parts nothing is less. -/
def poundsAt (h : House) (i : Int) : Int := (partOf h i.toNat).2
def strongAt (h : House) (i : Int) : Int := (kindOf h (partOf h i.toNat)).1
def daysAt (h : House) (i : Int) : Int := (kindOf h (partOf h i.toNat)).2
theorem cask_n (h : House) (l : List Int) : (caskIn h l).n = l.length :=
  snoc_ind (P := fun l => (caskIn h l).n = l.length) rfl (fun l x ih => by rw [caskIn_snoc, List.length_append]; simp only [layAt, layC, ih]; simp) l
theorem cask_p (h : House) (l : List Int) : (caskIn h l).p = (l.map (poundsAt h)).sum :=
  snoc_ind (P := fun l => (caskIn h l).p = (l.map (poundsAt h)).sum) rfl (fun l x ih => by rw [caskIn_snoc]; simp only [layAt, layC, ih, List.map_append, List.sum_append]; simp [poundsAt]) l
theorem cask_s_le (h : House) (l : List Int) (m : Int) : (caskIn h l).s ≤ m ↔ 0 ≤ m ∧ ∀ i ∈ l, strongAt h i ≤ m :=
  snoc_ind (P := fun l => (caskIn h l).s ≤ m ↔ 0 ≤ m ∧ ∀ i ∈ l, strongAt h i ≤ m) (by simp [caskIn, c0]) (fun l x ih => by
    rw [caskIn_snoc]
    have e : (layAt h (caskIn h l) x).s = max (caskIn h l).s (strongAt h x) := rfl
    rw [e, Int.max_le, ih]
    simp only [List.mem_append, List.mem_singleton]
    constructor
    · rintro ⟨⟨h1, h2⟩, h3⟩
      exact ⟨h1, fun i hi => hi.elim (h2 i) (fun e => e ▸ h3)⟩
    · rintro ⟨h1, h2⟩
      exact ⟨⟨h1, fun i hi => h2 i (.inl hi)⟩, h2 x (.inr rfl)⟩) l
theorem cask_d_le (h : House) (l : List Int) (m : Int) : (caskIn h l).d ≤ m ↔ 0 ≤ m ∧ ∀ i ∈ l, daysAt h i ≤ m :=
  snoc_ind (P := fun l => (caskIn h l).d ≤ m ↔ 0 ≤ m ∧ ∀ i ∈ l, daysAt h i ≤ m) (by simp [caskIn, c0]) (fun l x ih => by
    rw [caskIn_snoc]
    have e : (layAt h (caskIn h l) x).d = max (caskIn h l).d (daysAt h x) := rfl
    rw [e, Int.max_le, ih]
    simp only [List.mem_append, List.mem_singleton]
    constructor
    · rintro ⟨⟨h1, h2⟩, h3⟩
      exact ⟨h1, fun i hi => hi.elim (h2 i) (fun e => e ▸ h3)⟩
    · rintro ⟨h1, h2⟩
      exact ⟨⟨h1, fun i hi => h2 i (.inl hi)⟩, h2 x (.inr rfl)⟩) l

/-- Nothing of a cask is less. -/
structure Cask.le (a b : Cask) : Prop where
  n : a.n ≤ b.n
  p : a.p ≤ b.p
  s : a.s ≤ b.s
  d : a.d ≤ b.d
theorem saltC_mono {fl : Int} (hf : 0 ≤ fl) {a b : Cask} (h : a.le b) (hn : 0 ≤ a.n) (hp : 0 ≤ a.p) (hs : 0 ≤ a.s) : saltC fl a ≤ saltC fl b := by
  have h1 : a.p * a.s ≤ b.p * b.s := Int.mul_le_mul h.p h.s hs (by have := h.p; omega)
  have h0 : 0 ≤ a.p * a.s := Int.mul_nonneg hp hs
  have h3 := h.n
  unfold saltC
  split
  · split
    · omega
    · omega
  · split
    · omega
    · omega
theorem sum_le_of_sublist {f : Int → Int} {l l' : List Int} (h : l.Sublist l') : (∀ i ∈ l', 0 ≤ f i) → (l.map f).sum ≤ (l'.map f).sum := by
  induction h with
  | slnil => intro _; simp
  | cons a _ ih =>
    intro h
    have := ih fun i hi => h i (by simp [hi])
    have := h a (by simp)
    simp only [List.map_cons, List.sum_cons]; omega
  | cons_cons a _ ih =>
    intro h
    have := ih fun i hi => h i (by simp [hi])
    simp only [List.map_cons, List.sum_cons]; omega
theorem pounds_ok {h : House} (hv : HOK h) {i : Int} (hi : 0 ≤ i ∧ i < h.ps.length) : 0 ≤ poundsAt h i ∧ poundsAt h i ≤ 40 := by
  obtain ⟨kk, -, -, -, hp, -⟩ := hv.part (k := i.toNat) (by omega)
  exact hp
theorem cask_le_of_sublist {h : House} (hv : HOK h) {l l' : List Int} (hs : l.Sublist l') (hp : PartsOK h l') : (caskIn h l).le (caskIn h l') := by
  refine ⟨?_, ?_, ?_, ?_⟩
  · rw [cask_n, cask_n]; have := hs.length_le; omega
  · rw [cask_p, cask_p]; exact sum_le_of_sublist hs fun i hi => (pounds_ok hv (hp i hi)).1
  · rw [cask_s_le]
    have := (cask_s_le h l' (caskIn h l').s).1 (Int.le_refl _)
    exact ⟨this.1, fun i hi => this.2 i (hs.subset hi)⟩
  · rw [cask_d_le]
    have := (cask_d_le h l' (caskIn h l').d).1 (Int.le_refl _)
    exact ⟨this.1, fun i hi => this.2 i (hs.subset hi)⟩
theorem PartsOK.sub {h : House} {l l' : List Int} (hp : PartsOK h l') (hs : l.Sublist l') : PartsOK h l := fun i hi => hp i (hs.subset hi)
theorem salt_le_of_sublist {h : House} (hv : HOK h) {l l' : List Int} (hs : l.Sublist l') (hp : PartsOK h l') : saltC h.fl (caskIn h l) ≤ saltC h.fl (caskIn h l') := by
  have hu := caskIn_upto hv l (hp.sub hs)
  exact saltC_mono hv.f0 (cask_le_of_sublist hv hs hp) hu.n0 hu.p0 hu.s0
theorem need_le_of_sublist {h : House} (hv : HOK h) {l l' : List Int} (hs : l.Sublist l') (hp : PartsOK h l') : needC h l ≤ needC h l' := by
  have h1 := salt_le_of_sublist hv hs hp
  have h2 := (cask_le_of_sublist hv hs hp).p
  unfold needC; omega
theorem inOf_sub_app (a b : List Int) (x : Int) : (inOf a x).Sublist (inOf (a ++ b) x) := by
  refine snoc_ind (P := fun b => (inOf a x).Sublist (inOf (a ++ b) x)) (by simp) (fun l y ih => ?_) b
  rw [← List.append_assoc, inOf_snoc]
  split
  · exact ih.trans (List.sublist_append_left _ _)
  · exact ih
/-- A list that begins with one that does not fit does not fit. -/
theorem fitsR_pre {h : House} (hv : HOK h) {a b : List Int} (hl : (a ++ b).length ≤ h.ps.length) (hf : fitsR h (a ++ b) = true) : fitsR h a = true := by
  rw [fitsR_true] at hf ⊢
  intro x hx
  exact Int.le_trans (need_le_of_sublist hv (inOf_sub_app a b x) (inTo_parts hl)) (hf x hx)

/-- What the specification's lists returns. -/
def listsR (h : House) (lo : Int) : Nat → List Int → List (List Int)
  | 0, f => if fitsR h f then [f] else []
  | n + 1, f => if fitsR h f then (numsFrom lo h.bs.length).flatMap fun b => listsR h lo n (f ++ [b]) else []
theorem listsR_eq {h : House} (hv : HOK h) (lo : Int) : ∀ (n : Nat) (f : List Int), f.length + n ≤ h.ps.length → listsR h lo n f = ((allS lo h.bs.length n).map (f ++ ·)).filter (fitsR h)
  | 0, f, _ => by
    unfold listsR allS
    by_cases hf : fitsR h f = true
    · simp [hf]
    · simp [hf]
  | n + 1, f, hl => by
    unfold listsR allS
    by_cases hf : fitsR h f = true
    · rw [if_pos hf]
      rw [List.map_flatMap, List.filter_flatMap]
      congr 1
      funext b
      rw [listsR_eq hv lo n (f ++ [b]) (by simp; omega), List.map_map]
      congr 1
      apply List.map_congr_left
      intro t _
      simp
    · rw [if_neg hf]
      symm
      rw [List.filter_eq_nil_iff]
      intro l hl2 hfl
      obtain ⟨t, ht, rfl⟩ := List.mem_map.1 hl2
      have : t ∈ allS lo h.bs.length (n + 1) := by unfold allS; exact ht
      have hlen := (mem_allS.1 this).1
      exact hf (fitsR_pre hv (by simp [hlen]; omega) hfl)
/-- All lists that fit. -/
def fitting (h : House) (lo : Int) : List (List Int) := (allS lo h.bs.length h.ps.length).filter (fitsR h)
theorem listsR_nil {h : House} (hv : HOK h) (lo : Int) : listsR h lo h.ps.length [] = fitting h lo := by
  rw [listsR_eq hv lo _ _ (by simp)]
  simp [fitting]
/-! The lists in their order: which one follows. -/
theorem flatMap_len {α β : Type} {f : α → List β} {M : Nat} : ∀ (xs : List α), (∀ x ∈ xs, (f x).length = M) → (xs.flatMap f).length = xs.length * M
  | [], _ => by simp
  | x :: xs, h => by
    rw [List.flatMap_cons, List.length_append, h x (by simp), flatMap_len xs (fun y hy => h y (by simp [hy])), List.length_cons, Nat.succ_mul]; omega
theorem flatMap_at {α β : Type} {f : α → List β} {M : Nat} : ∀ (xs : List α) (q r : Nat), (∀ x ∈ xs, (f x).length = M) → r < M → (xs.flatMap f)[q * M + r]? = (xs[q]?).bind fun x => (f x)[r]?
  | [], q, r, _, _ => by simp
  | x :: xs, 0, r, h, hr => by
    rw [List.flatMap_cons, List.getElem?_append_left (by rw [h x (by simp)]; omega)]; simp
  | x :: xs, q + 1, r, h, hr => by
    have hx := h x (by simp)
    rw [List.flatMap_cons, List.getElem?_append_right (by rw [hx, Nat.succ_mul]; omega), hx, show (q + 1) * M + r - M = q * M + r by rw [Nat.succ_mul]; omega, flatMap_at xs q r (fun y hy => h y (by simp [hy])) hr]; simp
theorem numsFrom_len (lo : Int) (nb : Nat) : (numsFrom lo nb).length = ((nb : Int) - lo).toNat := by simp [numsFrom]
theorem numsFrom_at {lo : Int} {nb q : Nat} {x : Int} : (numsFrom lo nb)[q]? = some x ↔ lo + (q : Int) < nb ∧ x = lo + q := by
  simp only [numsFrom, List.getElem?_map]
  by_cases h : q < ((nb : Int) - lo).toNat
  · rw [List.getElem?_range h]
    simp only [Option.map_some, Option.some.injEq]
    constructor
    · intro e; exact ⟨by omega, e.symm⟩
    · intro e; exact e.2.symm
  · rw [List.getElem?_eq_none (by simpa using h)]
    simp only [Option.map_none]
    constructor
    · intro e; cases e
    · intro e; omega
theorem allS_len (lo : Int) (nb n : Nat) : ∀ b ∈ numsFrom lo nb, ((allS lo nb n).map (b :: ·)).length = (allS lo nb n).length := fun b _ => by simp
/-- Where a list stands. -/
theorem allS_cons {lo : Int} {nb n k : Nat} {b : Int} {t : List Int} (h : (allS lo nb (n + 1))[k]? = some (b :: t)) : ∃ q r : Nat, k = q * (allS lo nb n).length + r ∧ lo + (q : Int) < nb ∧ b = lo + q ∧ (allS lo nb n)[r]? = some t := by
  have hk : k < (allS lo nb (n + 1)).length := (List.getElem?_eq_some_iff.1 h).1
  have hM : 0 < (allS lo nb n).length := by
    rcases Nat.eq_zero_or_pos (allS lo nb n).length with e | e
    · rw [allS, flatMap_len _ (allS_len lo nb n), e] at hk; omega
    · exact e
  have hd : k = (k / (allS lo nb n).length) * (allS lo nb n).length + k % (allS lo nb n).length := by
    have := Nat.div_add_mod k (allS lo nb n).length
    rw [Nat.mul_comm] at this; exact this.symm
  have hr : k % (allS lo nb n).length < (allS lo nb n).length := Nat.mod_lt _ hM
  refine ⟨k / (allS lo nb n).length, k % (allS lo nb n).length, hd, ?_⟩
  rw [hd] at h
  rw [allS, flatMap_at _ _ _ (allS_len lo nb n) hr] at h
  obtain ⟨x, hx, h2⟩ := Option.bind_eq_some_iff.1 h
  obtain ⟨h3, rfl⟩ := numsFrom_at.1 hx
  rw [List.getElem?_map] at h2
  obtain ⟨t', ht, h4⟩ := Option.map_eq_some_iff.1 h2
  injection h4 with h5 h6
  subst h5 h6
  exact ⟨h3, rfl, ht⟩
theorem allS_at {lo : Int} {nb n q r : Nat} {t : List Int} (hq : lo + (q : Int) < nb) (h : (allS lo nb n)[r]? = some t) : (allS lo nb (n + 1))[q * (allS lo nb n).length + r]? = some ((lo + q) :: t) := by
  rw [allS, flatMap_at _ _ _ (allS_len lo nb n) (List.getElem?_eq_some_iff.1 h).1, numsFrom_at.2 ⟨hq, rfl⟩]
  simp [h]
theorem allS_size (lo : Int) (nb n : Nat) : (allS lo nb (n + 1)).length = ((nb : Int) - lo).toNat * (allS lo nb n).length := by
  rw [allS, flatMap_len _ (allS_len lo nb n), numsFrom_len]
theorem allS_pos {lo : Int} {nb : Nat} (h : lo < nb) : ∀ n, 0 < (allS lo nb n).length
  | 0 => by simp [allS]
  | n + 1 => by rw [allS_size]; exact Nat.mul_pos (by omega) (allS_pos h n)
theorem allS_none {lo : Int} {nb n : Nat} (h : (nb : Int) ≤ lo) (hn : 0 < n) : allS lo nb n = [] := by
  obtain ⟨m, rfl⟩ : ∃ m, n = m + 1 := ⟨n - 1, by omega⟩
  have := allS_size lo nb m
  rw [show ((nb : Int) - lo).toNat = 0 by omega, Nat.zero_mul] at this
  exact List.length_eq_zero_iff.1 this
theorem allS_first {lo : Int} {nb : Nat} : ∀ {n : Nat}, (0 < n → lo < nb) → (allS lo nb n)[0]? = some (List.replicate n lo)
  | 0, _ => rfl
  | n + 1, h => by
    have := allS_at (lo := lo) (nb := nb) (q := 0) (by have := h (by omega); omega) (allS_first (n := n) (fun _ => h (by omega)))
    simpa [List.replicate_succ] using this
/-- The last one has all greatest numbers. -/
theorem allS_last {lo : Int} {nb : Nat} : ∀ {n k : Nat} {p : List Int}, (allS lo nb n)[k]? = some p → (∀ x ∈ p, x = (nb : Int) - 1) → k + 1 = (allS lo nb n).length
  | 0, k, p, h, _ => by
    have := (List.getElem?_eq_some_iff.1 h).1
    simp [allS] at this ⊢; exact this
  | n + 1, k, p, h, hp => by
    match p, h, hp with
    | [], h, _ => have := (mem_allS.1 (List.mem_of_getElem? h)).1; simp at this
    | b :: t, h, hp =>
      obtain ⟨q, r, hk, hq, hb, ht⟩ := allS_cons h
      have h1 := allS_last ht (fun x hx => hp x (by simp [hx]))
      have h2 := hp b (by simp)
      rw [allS_size, show ((nb : Int) - lo).toNat = q + 1 by omega, Nat.succ_mul]
      omega
/-- The one behind a list: its last number that is not the greatest is one more, and the least ones follow. -/
theorem allS_next {lo : Int} {nb : Nat} : ∀ {n k : Nat} {p : List Int} (i : Nat) (x : Int), (allS lo nb n)[k]? = some p → p[i]? = some x → x ≠ (nb : Int) - 1 → (∀ j y, i < j → p[j]? = some y → y = (nb : Int) - 1) →
    (allS lo nb n)[k + 1]? = some (p.take i ++ (x + 1) :: List.replicate (n - 1 - i) lo)
  | 0, k, p, i, x, h, hx, _, _ => by
    have := (mem_allS.1 (List.mem_of_getElem? h)).1
    have h2 := (List.getElem?_eq_some_iff.1 hx).1
    omega
  | n + 1, k, p, i, x, h, hx, hne, hj => by
    match p, h, hx, hj with
    | [], h, _, _ => have := (mem_allS.1 (List.mem_of_getElem? h)).1; simp at this
    | b :: t, h, hx, hj =>
      obtain ⟨q, r, hk, hq, hb, ht⟩ := allS_cons h
      have hlo : lo < nb := by omega
      match i, hx, hj with
      | 0, hx, hj =>
        have hx : b = x := by simpa using hx
        have h1 := allS_last ht (fun y hy => by
          obtain ⟨j, hy⟩ := List.getElem?_of_mem hy
          exact hj (j + 1) y (by omega) (by simpa using hy))
        have h3 := allS_at (lo := lo) (nb := nb) (q := q + 1) (by omega) (allS_first (n := n) (fun _ => hlo))
        have e : k + 1 = (q + 1) * (allS lo nb n).length + 0 := by rw [Nat.succ_mul]; omega
        rw [e, h3]
        simp
        omega
      | i + 1, hx, hj =>
        have h1 := allS_next i x ht (by simpa using hx) hne (fun j y hij hy => hj (j + 1) y (by omega) (by simpa using hy))
        have h3 := allS_at (lo := lo) (nb := nb) (q := q) hq h1
        rw [show k + 1 = q * (allS lo nb n).length + (r + 1) by omega, h3, hb]
        simp
        omega
end Go.Proofs.Ytmconopnplgcfaa
