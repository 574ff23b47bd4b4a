import Derived.Test.YtgjpllmmpclgaaaM6
namespace Go.Proofs.Ytgjpllmmpclgaaa
open Go.RowKit

/-! The first boat over its load, in plain words. -/
theorem minN_mem : ∀ (l : List Int), minN l = 2000 ∨ minN l ∈ l := by
  intro l
  have : ∀ (l : List Int) (i : Int), l.foldl min i = i ∨ l.foldl min i ∈ l := fun l => by
    induction l with
    | nil => intro i; exact .inl rfl
    | cons y l ih =>
      intro i
      rw [List.foldl_cons]
      rcases ih (min i y) with h | h
      · rw [h]
        by_cases hle : i ≤ y
        · left; omega
        · right; rw [show min i y = y by omega]; simp
      · right; simp [h]
  exact this l 2000
/-- With a weight that a crew lifts no boat of it is over its load. -/
theorem lift_over {s : Sea} (hS : SOK s) {c p : List Int} (hc : CrewOf s.bs.length s.ps.length c) (hp : Parting s.ps 12 p) {n : Int} (h0 : 0 ≤ n) (h1 : n ≤ 2000) (h : n ≤ liftS s c) : overB s c n p = false := by
  unfold overB
  rw [List.any_eq_false]
  intro q hq
  obtain ⟨k, hk⟩ := List.mem_iff_getElem?.1 hq
  rw [List.getElem?_zip_eq_some] at hk
  obtain ⟨x, hx, v0, v1⟩ := parting_in hp hk.2
  have hkl := (List.getElem?_eq_some_iff.1 hk.1).1
  have hb := shares_bd hS (show k < s.ps.length by rw [← hc.1]; exact hkl)
  have hn := (holds_iff hb.1 h1 (carry_nn hS _)).1 ((lift_le h1).1 h k q.1 hk.1)
  have hsh := share_in k x q.2 hp hx hk.2
  rw [← shares_at hx] at hsh
  have h4 : n * q.2 ≤ n * (shares s k).2 := Int.mul_le_mul_of_nonneg_left hsh.2 h0
  rw [decide_eq_true_eq]
  omega
/-- Where First finds a place. -/
theorem first_at {s : Sea} {c : List Int} (h : liftS s c ≠ 2000) : ∃ (k : Nat) (j : Int), firstN s c = ((k : Int), 0) ∧ c[k]? = some j ∧ holdsN (carryN s j.toNat) (shares s k).2 = liftS s c ∧ ∀ (i : Nat) (x : Int), i < k → c[i]? = some x → holdsN (carryN s x.toNat) (shares s i).2 ≠ liftS s c := by
  have hm : liftS s c ∈ heldL s c := by
    rcases minN_mem (heldL s c) with h1 | h1
    · exact absurd h1 h
    · exact h1
  have hlt : (heldL s c).findIdx (fun v => v == liftS s c) < (heldL s c).length := List.findIdx_lt_length_of_exists ⟨_, hm, by simp⟩
  have hlt2 := hlt
  rw [heldL_length] at hlt2
  obtain ⟨j, hj⟩ : ∃ j, c[(heldL s c).findIdx (fun v => v == liftS s c)]? = some j := ⟨_, List.getElem?_eq_getElem hlt2⟩
  have hat := heldL_at (s := s) hj
  refine ⟨_, j, ?_, hj, ?_, fun i x hi hx he => ?_⟩
  · unfold firstN firstAt
    rw [if_neg h, if_pos hlt2]
  · have h1 := List.findIdx_getElem (w := hlt)
    rw [List.getElem?_eq_getElem hlt] at hat
    rw [Option.some.inj hat] at h1
    simpa using h1
  · have h1 := List.not_of_lt_findIdx hi
    have h2 := heldL_at (s := s) hx
    obtain ⟨hl, e⟩ := List.getElem?_eq_some_iff.1 h2
    rw [e, he] at h1
    simp at h1
theorem first_none {s : Sea} {c : List Int} (h : liftS s c = 2000) : firstN s c = (0, 3) := by unfold firstN; rw [if_pos h]
theorem first_over {s : Sea} (hS : SOK s) {c : List Int} (hc : CrewOf s.bs.length s.ps.length c) (h : liftS s c ≠ 2000) {k : Nat} {j : Int} (hj : c[k]? = some j) (he : holdsN (carryN s j.toNat) (shares s k).2 = liftS s c) :
    ¬ (liftS s c + 1) * (shares s k).2 ≤ 12 * carryN s j.toNat := by
  have hkl := (List.getElem?_eq_some_iff.1 hj).1
  have hb := shares_bd hS (show k < s.ps.length by rw [← hc.1]; exact hkl)
  have hl := lift_bd hS hc
  intro hle
  have := (holds_iff hb.1 (w := liftS s c + 1) (by omega) (carry_nn hS _)).2 hle
  omega
theorem first_before {s : Sea} (hS : SOK s) {c p : List Int} (hc : CrewOf s.bs.length s.ps.length c) (hp : Parting s.ps 12 p) (h : liftS s c ≠ 2000) {i : Nat} {x v : Int} (hx : c[i]? = some x) (hv : p[i]? = some v) (hne : holdsN (carryN s x.toNat) (shares s i).2 ≠ liftS s c) :
    (liftS s c + 1) * v ≤ 12 * carryN s x.toNat := by
  have hil := (List.getElem?_eq_some_iff.1 hx).1
  have hb := shares_bd hS (show i < s.ps.length by rw [← hc.1]; exact hil)
  have hl := lift_bd hS hc
  have hge := (lift_le (s := s) (c := c) (n := liftS s c) hl.2).1 (Int.le_refl _) i x hx
  have hm := (holds_iff hb.1 (w := liftS s c + 1) (by omega) (carry_nn hS x.toNat)).1 (by omega)
  obtain ⟨y, hy, v0, v1⟩ := parting_in hp hv
  have hsh := share_in i y v hp hy hv
  rw [← shares_at hy] at hsh
  have h4 : (liftS s c + 1) * v ≤ (liftS s c + 1) * (shares s i).2 := Int.mul_le_mul_of_nonneg_left hsh.2 (by omega)
  omega
end Go.Proofs.Ytgjpllmmpclgaaa
