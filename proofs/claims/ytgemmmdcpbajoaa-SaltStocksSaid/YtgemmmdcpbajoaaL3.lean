import Derived.Test.YtgemmmdcpbajoaaL2
namespace Go.Proofs.Ytgemmmdcpbajoaa
open Go.RowKit

/-! The lists in their order: which one follows. -/
theorem flatMap_len {α β : Type} {f : α → List β} {M : Nat} : ∀ (xs : List α), (∀ x ∈ xs, (f x).length = M) → (xs.flatMap f).length = xs.length * M
  | [], _ => by simp
  | x :: xs, h => by
    rw [List.flatMap_cons, List.length_append, h x (by simp), flatMap_len xs (fun y hy => h y (by simp [hy])), List.length_cons, Nat.succ_mul]; omega
theorem flatMap_at {α β : Type} {f : α → List β} {M : Nat} : ∀ (xs : List α) (q r : Nat), (∀ x ∈ xs, (f x).length = M) → r < M → (xs.flatMap f)[q * M + r]? = (xs[q]?).bind fun x => (f x)[r]?
  | [], q, r, _, _ => by simp
  | x :: xs, 0, r, h, hr => by
    rw [List.flatMap_cons, List.getElem?_append_left (by rw [h x (by simp)]; omega)]; simp
  | x :: xs, q + 1, r, h, hr => by
    have hx := h x (by simp)
    rw [List.flatMap_cons, List.getElem?_append_right (by rw [hx, Nat.succ_mul]; omega), hx, show (q + 1) * M + r - M = q * M + r by rw [Nat.succ_mul]; omega, flatMap_at xs q r (fun y hy => h y (by simp [hy])) hr]; simp
theorem numsFrom_len (lo : Int) (nb : Nat) : (numsFrom lo nb).length = ((nb : Int) - lo).toNat := by simp [numsFrom]
theorem numsFrom_at {lo : Int} {nb q : Nat} {x : Int} : (numsFrom lo nb)[q]? = some x ↔ lo + (q : Int) < nb ∧ x = lo + q := by
  simp only [numsFrom, List.getElem?_map]
  by_cases h : q < ((nb : Int) - lo).toNat
  · rw [List.getElem?_range h]
    simp only [Option.map_some, Option.some.injEq]
    constructor
    · intro e; exact ⟨by omega, e.symm⟩
    · intro e; exact e.2.symm
  · rw [List.getElem?_eq_none (by simpa using h)]
    simp only [Option.map_none]
    constructor
    · intro e; cases e
    · intro e; omega
theorem allS_len (lo : Int) (nb n : Nat) : ∀ b ∈ numsFrom lo nb, ((allS lo nb n).map (b :: ·)).length = (allS lo nb n).length := fun b _ => by simp
/-- Where a list stands. -/
theorem allS_cons {lo : Int} {nb n k : Nat} {b : Int} {t : List Int} (h : (allS lo nb (n + 1))[k]? = some (b :: t)) : ∃ q r : Nat, k = q * (allS lo nb n).length + r ∧ lo + (q : Int) < nb ∧ b = lo + q ∧ (allS lo nb n)[r]? = some t := by
  have hk : k < (allS lo nb (n + 1)).length := (List.getElem?_eq_some_iff.1 h).1
  have hM : 0 < (allS lo nb n).length := by
    rcases Nat.eq_zero_or_pos (allS lo nb n).length with e | e
    · rw [allS, flatMap_len _ (allS_len lo nb n), e] at hk; omega
    · exact e
  have hd : k = (k / (allS lo nb n).length) * (allS lo nb n).length + k % (allS lo nb n).length := by
    have := Nat.div_add_mod k (allS lo nb n).length
    rw [Nat.mul_comm] at this; exact this.symm
  have hr : k % (allS lo nb n).length < (allS lo nb n).length := Nat.mod_lt _ hM
  refine ⟨k / (allS lo nb n).length, k % (allS lo nb n).length, hd, ?_⟩
  rw [hd] at h
  rw [allS, flatMap_at _ _ _ (allS_len lo nb n) hr] at h
  obtain ⟨x, hx, h2⟩ := Option.bind_eq_some_iff.1 h
  obtain ⟨h3, rfl⟩ := numsFrom_at.1 hx
  rw [List.getElem?_map] at h2
  obtain ⟨t', ht, h4⟩ := Option.map_eq_some_iff.1 h2
  injection h4 with h5 h6
  subst h5 h6
  exact ⟨h3, rfl, ht⟩
theorem allS_at {lo : Int} {nb n q r : Nat} {t : List Int} (hq : lo + (q : Int) < nb) (h : (allS lo nb n)[r]? = some t) : (allS lo nb (n + 1))[q * (allS lo nb n).length + r]? = some ((lo + q) :: t) := by
  rw [allS, flatMap_at _ _ _ (allS_len lo nb n) (List.getElem?_eq_some_iff.1 h).1, numsFrom_at.2 ⟨hq, rfl⟩]
  simp [h]
theorem allS_size (lo : Int) (nb n : Nat) : (allS lo nb (n + 1)).length = ((nb : Int) - lo).toNat * (allS lo nb n).length := by
  rw [allS, flatMap_len _ (allS_len lo nb n), numsFrom_len]
theorem allS_pos {lo : Int} {nb : Nat} (h : lo < nb) : ∀ n, 0 < (allS lo nb n).length
  | 0 => by simp [allS]
  | n + 1 => by rw [allS_size]; exact Nat.mul_pos (by omega) (allS_pos h n)
theorem allS_none {lo : Int} {nb n : Nat} (h : (nb : Int) ≤ lo) (hn : 0 < n) : allS lo nb n = [] := by
  obtain ⟨m, rfl⟩ : ∃ m, n = m + 1 := ⟨n - 1, by omega⟩
  have := allS_size lo nb m
  rw [show ((nb : Int) - lo).toNat = 0 by omega, Nat.zero_mul] at this
  exact List.length_eq_zero_iff.1 this
theorem allS_first {lo : Int} {nb : Nat} : ∀ {n : Nat}, (0 < n → lo < nb) → (allS lo nb n)[0]? = some (List.replicate n lo)
  | 0, _ => rfl
  | n + 1, h => by
    have := allS_at (lo := lo) (nb := nb) (q := 0) (by have := h (by omega); omega) (allS_first (n := n) (fun _ => h (by omega)))
    simpa [List.replicate_succ] using this
/-- The last one has all greatest numbers. -/
theorem allS_last {lo : Int} {nb : Nat} : ∀ {n k : Nat} {p : List Int}, (allS lo nb n)[k]? = some p → (∀ x ∈ p, x = (nb : Int) - 1) → k + 1 = (allS lo nb n).length
  | 0, k, p, h, _ => by
    have := (List.getElem?_eq_some_iff.1 h).1
    simp [allS] at this ⊢; exact this
  | n + 1, k, p, h, hp => by
    match p, h, hp with
    | [], h, _ => have := (mem_allS.1 (List.mem_of_getElem? h)).1; simp at this
    | b :: t, h, hp =>
      obtain ⟨q, r, hk, hq, hb, ht⟩ := allS_cons h
      have h1 := allS_last ht (fun x hx => hp x (by simp [hx]))
      have h2 := hp b (by simp)
      rw [allS_size, show ((nb : Int) - lo).toNat = q + 1 by omega, Nat.succ_mul]
      omega
/-- The one behind a list: its last number that is not the greatest is one more, and the least ones follow. -/
theorem allS_next {lo : Int} {nb : Nat} : ∀ {n k : Nat} {p : List Int} (i : Nat) (x : Int), (allS lo nb n)[k]? = some p → p[i]? = some x → x ≠ (nb : Int) - 1 → (∀ j y, i < j → p[j]? = some y → y = (nb : Int) - 1) →
    (allS lo nb n)[k + 1]? = some (p.take i ++ (x + 1) :: List.replicate (n - 1 - i) lo)
  | 0, k, p, i, x, h, hx, _, _ => by
    have := (mem_allS.1 (List.mem_of_getElem? h)).1
    have h2 := (List.getElem?_eq_some_iff.1 hx).1
    omega
  | n + 1, k, p, i, x, h, hx, hne, hj => by
    match p, h, hx, hj with
    | [], h, _, _ => have := (mem_allS.1 (List.mem_of_getElem? h)).1; simp at this
    | b :: t, h, hx, hj =>
      obtain ⟨q, r, hk, hq, hb, ht⟩ := allS_cons h
      have hlo : lo < nb := by omega
      match i, hx, hj with
      | 0, hx, hj =>
        have hx : b = x := by simpa using hx
        have h1 := allS_last ht (fun y hy => by
          obtain ⟨j, hy⟩ := List.getElem?_of_mem hy
          exact hj (j + 1) y (by omega) (by simpa using hy))
        have h3 := allS_at (lo := lo) (nb := nb) (q := q + 1) (by omega) (allS_first (n := n) (fun _ => hlo))
        have e : k + 1 = (q + 1) * (allS lo nb n).length + 0 := by rw [Nat.succ_mul]; omega
        rw [e, h3]
        simp
        omega
      | i + 1, hx, hj =>
        have h1 := allS_next i x ht (by simpa using hx) hne (fun j y hij hy => hj (j + 1) y (by omega) (by simpa using hy))
        have h3 := allS_at (lo := lo) (nb := nb) (q := q) hq h1
        rw [show k + 1 = q * (allS lo nb n).length + (r + 1) by omega, h3, hb]
        simp
        omega
end Go.Proofs.Ytgemmmdcpbajoaa
