import Derived.Test.YtgjpllmmpclgaaaM7
namespace Go.Proofs.Ytgjpllmmpclgaaa
open Go.RowKit

/-! Each truth, in plain words. -/
theorem each_plain {s : Sea} (hS : SOK s) {p : List Int} (hp : Parting s.ps 12 p) {n : Int} (h0 : s.wl ≤ n) (h1 : n ≤ s.wh) {i : Nat} {v : Int} (hv : p[i]? = some v) :
    ((shares s i).1 ≤ v ∧ v ≤ (shares s i).2) ∧ (s.wl * (shares s i).1 ≤ n * v ∧ n * v ≤ s.wh * (shares s i).2) ∧ n * v ≤ 12 * needN s i ∧ 0 ≤ v ∧ v ≤ 12 := by
  obtain ⟨x, hx, _, _⟩ := parting_in hp hv
  have hil := (List.getElem?_eq_some_iff.1 hx).1
  have hb := shares_bd hS hil
  have hsh := share_in i x v hp hx hv
  rw [← shares_at hx] at hsh
  have hvb := parts_bd hS hp v (List.mem_of_getElem? hv)
  have hw0 := hS.w0
  have a1 : s.wl * (shares s i).1 ≤ s.wl * v := Int.mul_le_mul_of_nonneg_left hsh.1 hw0
  have a2 : s.wl * v ≤ n * v := Int.mul_le_mul_of_nonneg_right h0 hvb.1
  have a3 : n * v ≤ s.wh * v := Int.mul_le_mul_of_nonneg_right h1 hvb.1
  have a4 : s.wh * v ≤ s.wh * (shares s i).2 := Int.mul_le_mul_of_nonneg_left hsh.2 (by omega)
  have a5 : s.wh * (shares s i).2 ≤ 12 * needN s i := (need_iff _).2 (Int.le_refl _)
  exact ⟨hsh, ⟨by omega, by omega⟩, by omega, hvb⟩
theorem holds_ret {s : Sea} (hv : validS s = true) {n : Int} {p : List Int} (h : inR n s.wl s.wh = true) (hp : partsB s p = true) : holdsRet s n p = (true, 0) := by
  unfold holdsRet
  rw [askS_true hv]
  unfold partsB at hp
  rw [Bool.and_eq_true, Bool.and_eq_true] at hp
  unfold holdsB
  rw [h, hp.1, hp.2.1, hp.2.2]
  simp
theorem load_ret {s : Sea} (hv : validS s = true) {k : Nat} (hk : k < s.ps.length) : loadRet s k = ((s.wl * (shares s k).1, s.wh * (shares s k).2), 0) := by
  have h : shareRet s k = (shares s k, 0) := by
    unfold shareRet
    rw [inR_true.2 (show (0 : Int) ≤ k ∧ (k : Int) ≤ s.ps.length - 1 by omega), askS_true hv]
    simp
  unfold loadRet
  rw [h]
  simp
/-- What the places but one can have, at the least and at the most. -/
def lowTo (s : Sea) (k m : Nat) : Int := sumL (s.ps.take m) - if k < m then (s.ps.getD k (0, 0)).1 else 0
def highTo (s : Sea) (k m : Nat) : Int := sumH (s.ps.take m) - if k < m then (s.ps.getD k (0, 0)).2 else 0
theorem lowTo_self {s : Sea} {k : Nat} {x : Int × Int} (hx : s.ps[k]? = some x) : lowTo s k (k + 1) = lowTo s k k ∧ highTo s k (k + 1) = highTo s k k := by
  unfold lowTo highTo
  rw [sumL_next hx, sumH_next hx, if_pos (by omega), if_neg (by omega), if_pos (by omega), if_neg (by omega)]
  simp only [List.getD, hx, Option.getD_some]
  omega
theorem lowTo_other {s : Sea} {k m : Nat} {x : Int × Int} (hx : s.ps[m]? = some x) (h : m ≠ k) : lowTo s k (m + 1) = lowTo s k m + x.1 ∧ highTo s k (m + 1) = highTo s k m + x.2 := by
  unfold lowTo highTo
  rw [sumL_next hx, sumH_next hx]
  by_cases hk : k < m
  · rw [if_pos (by omega), if_pos hk, if_pos (by omega), if_pos hk]; omega
  · rw [if_neg (by omega), if_neg hk, if_neg (by omega), if_neg hk]; omega
theorem share_low {s : Sea} {k : Nat} {x : Int × Int} (hx : s.ps[k]? = some x) : shares s k = (max x.1 (12 - highTo s k s.ps.length), min x.2 (12 - lowTo s k s.ps.length)) := by
  have hk := (List.getElem?_eq_some_iff.1 hx).1
  rw [shares_at hx]
  unfold shareL lowTo highTo
  rw [if_pos hk, if_pos hk, List.take_length]
  simp only [List.getD, hx, Option.getD_some]
theorem sumL_nn : ∀ {l : List (Int × Int)}, (∀ x ∈ l, 0 ≤ x.1 ∧ x.1 ≤ x.2 ∧ x.2 ≤ 12) → 0 ≤ sumL l ∧ sumL l ≤ 12 * l.length ∧ 0 ≤ sumH l ∧ sumH l ≤ 12 * l.length
  | [], _ => by simp [sumL, sumH]
  | x :: l, h => by
    have ih := sumL_nn (l := l) fun y hy => h y (by simp [hy])
    have := h x (by simp)
    rw [sumL_cons, sumH_cons, List.length_cons]
    omega
theorem lowTo_bd {s : Sea} (hS : SOK s) (k : Nat) {m : Nat} (hm : m ≤ s.ps.length) : -12 ≤ lowTo s k m ∧ lowTo s k m ≤ 48 ∧ -12 ≤ highTo s k m ∧ highTo s k m ≤ 48 := by
  have h := sumL_nn (l := s.ps.take m) fun x hx => hS.p x (List.mem_of_mem_take hx)
  have hl : (s.ps.take m).length ≤ 4 := by rw [List.length_take]; have := hS.pl; omega
  have hx : ∀ y : Int × Int, y = s.ps.getD k (0, 0) → 0 ≤ y.1 ∧ y.1 ≤ 12 ∧ 0 ≤ y.2 ∧ y.2 ≤ 12 := by
    rintro y rfl
    by_cases hk : k < s.ps.length
    · have := hS.p _ (List.getElem_mem hk)
      simp only [List.getD, List.getElem?_eq_getElem hk, Option.getD_some]
      omega
    · simp [List.getD, List.getElem?_eq_none (show s.ps.length ≤ k by omega)]
  have := hx _ rfl
  unfold lowTo highTo
  split <;> omega
end Go.Proofs.Ytgjpllmmpclgaaa
