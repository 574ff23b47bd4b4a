import Derived.Test.YtgjpllmmpclgaaaM10
namespace Go.Proofs.Ytgjpllmmpclgaaa
open Go.RowKit

/-! A turn of the places and of the boats. -/
def rotL {α : Type} (l : List α) (r : Nat) : List α := l.drop r ++ l.take r
theorem rotL_len {α : Type} (l : List α) (r : Nat) : (rotL l r).length = l.length := by
  simp only [rotL, List.length_append, List.length_drop, List.length_take]; omega
theorem rotL_mem {α : Type} {l : List α} {r : Nat} {x : α} : x ∈ rotL l r ↔ x ∈ l := by
  unfold rotL
  rw [List.mem_append]
  constructor
  · exact fun h => h.elim List.mem_of_mem_drop List.mem_of_mem_take
  · intro h
    rw [← List.take_append_drop r l, List.mem_append] at h
    exact h.symm
theorem rotL_at {α : Type} {l : List α} {r i : Nat} (hr : r ≤ l.length) (hi : i < l.length) : (rotL l r)[i]? = l[if i + r < l.length then i + r else i + r - l.length]? := by
  unfold rotL
  by_cases h : i + r < l.length
  · rw [if_pos h, List.getElem?_append_left (by rw [List.length_drop]; omega), List.getElem?_drop, Nat.add_comm]
  · rw [if_neg h, List.getElem?_append_right (by rw [List.length_drop]; omega), List.getElem?_take, List.length_drop, if_pos (by omega)]
    congr 1; omega
theorem rotL_back {α : Type} (l : List α) {r : Nat} (hr : r ≤ l.length) : rotL (rotL l r) (l.length - r) = l := by
  unfold rotL
  have e : (l.drop r).length = l.length - r := List.length_drop
  rw [← e, List.drop_left, List.take_left, List.take_append_drop]
def mixL {α : Type} (old new : List α) (k : Nat) : List α := new.take k ++ old.drop k
theorem mixL_zero {α : Type} (old new : List α) : mixL old new 0 = old := by simp [mixL]
theorem mixL_len {α : Type} {old new : List α} (hl : new.length = old.length) (k : Nat) : (mixL old new k).length = old.length := by
  simp only [mixL, List.length_append, List.length_take, List.length_drop]; omega
theorem mixL_all {α : Type} {old new : List α} (hl : new.length = old.length) : mixL old new old.length = new := by
  unfold mixL
  rw [List.take_of_length_le (by omega), List.drop_eq_nil_of_le (Nat.le_refl _), List.append_nil]
theorem mixL_next {α : Type} {old new : List α} {k : Nat} {x : α} (hl : new.length = old.length) (hk : k < old.length) (hx : new[k]? = some x) : mixL old new (k + 1) = (mixL old new k).set k x := by
  unfold mixL
  have hkt : (new.take k).length = k := by rw [List.length_take]; omega
  rw [List.set_append, if_neg (by omega), hkt, Nat.sub_self, List.drop_eq_getElem_cons hk, List.set_cons_zero, List.take_add_one, hx]
  simp
/-- Where a place comes from, and where a boat goes to. -/
def fromP (n q k : Nat) : Nat := if k + q < n then k + q else k + q - n
def toP (n r j : Nat) : Nat := if r ≤ j then j - r else j + n - r
def turnS (s : Sea) (q r : Nat) : Sea := { s with ps := rotL s.ps q, bs := rotL s.bs r }
theorem renamed_turn (s : Sea) {q r : Nat} (hq : q ≤ s.ps.length) (hr : r ≤ s.bs.length) : Renamed s (turnS s q r) (fromP s.ps.length q) (toP s.bs.length r) := by
  refine ⟨rfl, rfl, rotL_len _ _, rotL_len _ _, fun k hk => ?_, fun k m hk hm h => ?_, fun k hk => rotL_at hq hk, fun j hj => ?_, fun k m hk hm h => ?_, fun j hj => ?_⟩
  · unfold fromP; split <;> omega
  · unfold fromP at h; split at h <;> split at h <;> omega
  · unfold toP; split <;> omega
  · unfold toP at h; split at h <;> split at h <;> omega
  · have h1 : toP s.bs.length r j < s.bs.length := by unfold toP; split <;> omega
    show (rotL s.bs r)[toP s.bs.length r j]? = _
    rw [rotL_at hr h1]
    congr 1
    unfold toP
    split <;> split <;> omega
theorem turn_back (s : Sea) {q r : Nat} (hq : q ≤ s.ps.length) (hr : r ≤ s.bs.length) : turnS (turnS s q r) (s.ps.length - q) (s.bs.length - r) = s := by
  unfold turnS
  simp only
  rw [rotL_back _ hq, rotL_back _ hr]
theorem valid_turn {s : Sea} (hv : validS s = true) {q r : Nat} (hq : q ≤ s.ps.length) (hr : r ≤ s.bs.length) : validS (turnS s q r) = true := by
  have hs := (renamed_turn s hq hr).sum
  have l1 : (turnS s q r).ps.length = s.ps.length := rotL_len _ _
  have l2 : (turnS s q r).bs.length = s.bs.length := rotL_len _ _
  unfold validS bigS at hv ⊢
  rw [hs.1, hs.2, l1, l2]
  simp only [Bool.and_eq_true, List.all_eq_true] at hv ⊢
  exact ⟨hv.1, fun x hx => hv.2.1 x (rotL_mem.1 hx), hv.2.2.1, fun x hx => hv.2.2.2 x (rotL_mem.1 hx)⟩
/-- The order of the places and of the boats is nothing. -/
theorem turn_same {s : Sea} (hv : validS s = true) {q r : Nat} (hq : q ≤ s.ps.length) (hr : r ≤ s.bs.length) : mostS (turnS s q r) = mostS s ∧ cheapW (turnS s q r) = cheapW s := by
  have hS := SOK.ofValid hv
  have hT := SOK.ofValid (valid_turn hv hq hr)
  have h1 := renamed_turn s hq hr
  have h2 := renamed_turn (turnS s q r) (q := s.ps.length - q) (r := s.bs.length - r) (by rw [h1.np]; omega) (by rw [h1.nb]; omega)
  rw [turn_back s hq hr] at h2
  exact ⟨Int.le_antisymm (h2.most hT) (h1.most hS), Int.le_antisymm (h1.cheap hT) (h2.cheap hS)⟩
theorem rem_idx {n : Nat} {x : Int} {k : Nat} (hk : k < n) : ((k : Int) + x) % (n : Int) = (fromP n (x % n).toNat k : Int) := by
  have h1 := Int.emod_nonneg x (show (n : Int) ≠ 0 by omega)
  have h2 := Int.emod_lt_of_pos x (show (0 : Int) < n by omega)
  rw [Int.add_emod]
  unfold fromP
  have h3 : (k : Int) % n = k := Int.emod_eq_of_lt (by omega) (by omega)
  rw [h3]
  split
  · rw [Int.emod_eq_of_lt (by omega) (by omega)]; omega
  · rw [← Int.sub_emod_right, Int.emod_eq_of_lt (by omega) (by omega)]; omega
theorem rot_ex (n : Nat) (x : Int) : ∃ r, r ≤ n ∧ ∀ k : Nat, k < n → ((k : Int) + x) % (n : Int) = (fromP n r k : Int) := by
  by_cases h : n = 0
  · exact ⟨0, by omega, fun k hk => by omega⟩
  · refine ⟨(x % n).toNat, ?_, fun k hk => rem_idx hk⟩
    have h1 := Int.emod_nonneg x (show (n : Int) ≠ 0 by omega)
    have h2 := Int.emod_lt_of_pos x (show (0 : Int) < n by omega)
    omega
end Go.Proofs.Ytgjpllmmpclgaaa
