import Derived.Test.YtgjpllmmpclgaaaF2
namespace Go.Proofs.Ytgjpllmmpclgaaa
open Go.RowKit

/-! What holds, in plain words. -/
theorem over_fits {s : Sea} {n : Int} : ∀ {c p : List Int}, c.length = p.length → (overB s c n p = false ↔ fitsW n (carriesL s c) p)
  | [], [], _ => by simp [overB, carriesL, fitsW]
  | x :: c, v :: p, h => by
    have ih := over_fits (s := s) (n := n) (c := c) (p := p) (by simpa using h)
    unfold overB at ih ⊢
    rw [List.zip_cons_cons, List.any_cons, Bool.or_eq_false_iff, ih, decide_eq_false_iff_not]
    show _ ↔ (n * v ≤ 12 * carryN s x.toNat ∧ fitsW n (carriesL s c) p)
    rw [Int.not_lt]
theorem parts_parting {ps : List (Int × Int)} : ∀ {t : Int} {p : List Int}, (p.length = ps.length ∧ (∀ (k : Nat) (v : Int) (x : Int × Int), p[k]? = some v → ps[k]? = some x → x.1 ≤ v ∧ v ≤ x.2) ∧ p.sum = t) ↔ Parting ps t p := by
  induction ps with
  | nil =>
    intro t p
    constructor
    · rintro ⟨h1, _, rfl⟩
      obtain rfl := List.length_eq_zero_iff.1 h1
      exact .nil
    · intro h
      cases h
      exact ⟨rfl, fun k v x hv => by simp at hv, rfl⟩
  | cons y ps ih =>
    intro t p
    constructor
    · rintro ⟨h1, h2, rfl⟩
      match p, h1 with
      | v :: p, h1 =>
        have h0 := h2 0 v y rfl rfl
        refine .cons h0.1 h0.2 (ih.1 ⟨by simpa using h1, fun k v' x' hv hx => h2 (k + 1) v' x' (by simpa using hv) (by simpa using hx), ?_⟩)
        rw [List.sum_cons]; omega
    · intro h
      cases h with
      | cons a b c =>
        obtain ⟨h1, h2, h3⟩ := ih.2 c
        refine ⟨by simp [h1], fun k v' x' hv hx => ?_, by rw [List.sum_cons, h3]; omega⟩
        cases k with
        | zero => simp at hv hx; subst hv hx; exact ⟨a, b⟩
        | succ k => exact h2 k v' x' (by simpa using hv) (by simpa using hx)
theorem partsB_iff {s : Sea} {p : List Int} : partsB s p = true ↔ Parting s.ps 12 p := by
  rw [← parts_parting]
  unfold partsB
  rw [Bool.and_eq_true, Bool.and_eq_true, decide_eq_true_eq, decide_eq_true_eq]
  constructor
  · rintro ⟨h1, h2, h3⟩; exact ⟨h1, (inside_iff h1).1 h2, h3⟩
  · rintro ⟨h1, h2, h3⟩; exact ⟨h1, (inside_iff h1).2 h2, h3⟩
theorem parting_in {ps : List (Int × Int)} {t : Int} {p : List Int} (h : Parting ps t p) {k : Nat} {v : Int} (hv : p[k]? = some v) : ∃ x, ps[k]? = some x ∧ x.1 ≤ v ∧ v ≤ x.2 := by
  obtain ⟨h1, h2, _⟩ := parts_parting.2 h
  obtain ⟨x, hx⟩ : ∃ x, ps[k]? = some x := ⟨_, List.getElem?_eq_getElem (by rw [← h1]; exact (List.getElem?_eq_some_iff.1 hv).1)⟩
  exact ⟨x, hx, h2 k v x hv hx⟩
theorem parts_bd {s : Sea} (hS : SOK s) {p : List Int} (h : Parting s.ps 12 p) : ∀ x ∈ p, 0 ≤ x ∧ x ≤ 12 := fun v hv => by
  obtain ⟨k, hk⟩ := List.mem_iff_getElem?.1 hv
  obtain ⟨x, hx, h1, h2⟩ := parting_in h hk
  have := hS.p x (List.mem_of_getElem? hx)
  omega
theorem safe_at {s : Sea} {c : List Int} (h : safeC s c = true) {k : Nat} {j : Int} (hj : c[k]? = some j) : needN s k ≤ carryN s j.toNat := by
  unfold safeC at h
  rw [List.all_eq_true] at h
  have := h (j, k) (List.mem_iff_getElem?.2 ⟨k, by rw [List.getElem?_zipIdx, hj]; simp⟩)
  simpa using this
theorem safe_of {s : Sea} {c : List Int} (h : ∀ (k : Nat) (j : Int), c[k]? = some j → needN s k ≤ carryN s j.toNat) : safeC s c = true := by
  unfold safeC
  rw [List.all_eq_true]
  intro p hp
  obtain ⟨k, hk⟩ := List.mem_iff_getElem?.1 hp
  rw [List.getElem?_zipIdx] at hk
  cases hj : c[k]? with
  | none => rw [hj] at hk; simp at hk
  | some j =>
    rw [hj] at hk
    simp only [Option.map_some, Option.some.injEq, Nat.zero_add] at hk
    subst hk
    exact decide_eq_true (h k j hj)
theorem lift_le {s : Sea} {c : List Int} {n : Int} (hn : n ≤ 2000) : n ≤ liftS s c ↔ ∀ (k : Nat) (j : Int), c[k]? = some j → n ≤ holdsN (carryN s j.toNat) (shares s k).2 := by
  unfold liftS
  rw [le_minN hn]
  constructor
  · intro h k j hj
    exact h _ (List.mem_of_getElem? (heldL_at hj))
  · intro h x hx
    obtain ⟨k, hk⟩ := List.mem_iff_getElem?.1 hx
    cases hj : c[k]? with
    | none =>
      have : (heldL s c).length ≤ k := by rw [heldL_length]; exact List.getElem?_eq_none_iff.1 hj
      rw [List.getElem?_eq_none this] at hk; cases hk
    | some j =>
      rw [heldL_at hj] at hk
      cases hk
      exact h k j hj
theorem carry_nn {s : Sea} (hS : SOK s) (j : Nat) : 0 ≤ carryN s j := by
  by_cases hj : j < s.bs.length
  · obtain ⟨z, hz, z0, _⟩ := boat_at hS hj
    rw [(boat_eq hz).1]; exact z0
  · unfold carryN
    rw [List.getD_eq_getElem?_getD, List.getElem?_eq_none (by omega)]
    simp
/-- A crew surely holds just if it lifts the greatest weight. -/
theorem safe_lift {s : Sea} (hS : SOK s) {c : List Int} (hc : CrewOf s.bs.length s.ps.length c) : safeC s c = decide (s.wh ≤ liftS s c) := by
  rw [Bool.eq_iff_iff, decide_eq_true_eq, lift_le hS.w2]
  have hk : ∀ (k : Nat) (j : Int), c[k]? = some j → (needN s k ≤ carryN s j.toNat ↔ s.wh ≤ holdsN (carryN s j.toNat) (shares s k).2) := fun k j hj => by
    have hkl := (List.getElem?_eq_some_iff.1 hj).1
    have hb := shares_bd hS (show k < s.ps.length by rw [← hc.1]; exact hkl)
    rw [holds_iff hb.1 hS.w2 (carry_nn hS _)]
    exact (need_iff _).symm
  exact ⟨fun h k j hj => (hk k j hj).1 (safe_at h hj), fun h => safe_of fun k j hj => (hk k j hj).2 (h k j hj)⟩
/-- In each truth no boat is over its load, if the crew surely holds. -/
theorem safe_over {s : Sea} (hS : SOK s) {c p : List Int} (hc : CrewOf s.bs.length s.ps.length c) (hp : Parting s.ps 12 p) {n : Int} (h0 : s.wl ≤ n) (h1 : n ≤ s.wh) (h : safeC s c = true) : overB s c n p = false := by
  unfold overB
  rw [List.any_eq_false]
  intro q hq
  obtain ⟨k, hk⟩ := List.mem_iff_getElem?.1 hq
  rw [List.getElem?_zip_eq_some] at hk
  obtain ⟨x, hx, v0, v1⟩ := parting_in hp hk.2
  have hkl := (List.getElem?_eq_some_iff.1 hk.1).1
  have hn := safe_at h hk.1
  have hsh := share_in k x q.2 hp hx hk.2
  have hb := shares_bd hS (show k < s.ps.length by rw [← hc.1]; exact hkl)
  rw [← shares_at hx] at hsh
  have h2 : s.wh * (shares s k).2 ≤ 12 * carryN s q.1.toNat := (need_iff _).2 hn
  have hx0 := (hS.p x (List.mem_of_getElem? hx)).1
  have hw0 := hS.w0
  have h3 : n * q.2 ≤ s.wh * q.2 := Int.mul_le_mul_of_nonneg_right h1 (by omega)
  have h4 : s.wh * q.2 ≤ s.wh * (shares s k).2 := Int.mul_le_mul_of_nonneg_left hsh.2 (by omega)
  rw [decide_eq_true_eq]
  omega
theorem fitsW_mono {n m : Int} (h : n ≤ m) : ∀ {cs p : List Int}, (∀ x ∈ p, 0 ≤ x) → fitsW m cs p → fitsW n cs p
  | [], _, _, _ => by simp [fitsW]
  | _ :: _, [], _, _ => by simp [fitsW]
  | c :: cs, v :: p, hp, hf => ⟨Int.le_trans (Int.mul_le_mul_of_nonneg_right h (hp v (by simp))) hf.1, fitsW_mono h (fun x hx => hp x (by simp [hx])) hf.2⟩
/-- In each truth some boat is over its load, if the crew never holds. -/
theorem never_over {s : Sea} (hS : SOK s) {c p : List Int} (hc : CrewOf s.bs.length s.ps.length c) (hp : Parting s.ps 12 p) {n : Int} (h0 : s.wl ≤ n) (h : neverB s c = true) : overB s c n p = true := by
  cases ho : overB s c n p
  · exfalso
    have hl : c.length = p.length := by rw [hp.len, hc.1]
    have hf := fitsW_mono h0 (fun x hx => (parts_bd hS hp x hx).1) ((over_fits hl).1 ho)
    have hcap := (perhaps_iff hS.w0 (ps := s.ps) (cs := carriesL s c) (t := 12) (by simp [carriesL, hc.1]) (fun y hy => by
      unfold carriesL at hy
      obtain ⟨j, _, rfl⟩ := List.mem_map.1 hy
      exact carry_nn hS _) hS.lo).1 ⟨p, hp, hf⟩
    unfold neverB at h
    rw [Bool.not_eq_true', Bool.and_eq_false_iff] at h
    rcases h with h | h
    · rw [List.all_eq_false] at h
      obtain ⟨x, hx, hx2⟩ := h
      exact hx2 (decide_eq_true (hcap.1 x hx))
    · exact absurd hcap.2 (of_decide_eq_false h)
  · rfl
theorem safeN_cases (s : Sea) (c : List Int) : (safeN s c = 1 ∧ safeC s c = true) ∨ (safeN s c = 2 ∧ safeC s c = false ∧ neverB s c = true) ∨ (safeN s c = 3 ∧ safeC s c = false) := by
  unfold safeN
  cases h : safeC s c
  · cases h2 : neverB s c
    · right; right; simp
    · right; left; simp
  · left; simp
theorem safe_ret {s : Sea} {c : List Int} (hv : validS s = true) (hc : crewB s c = true) : safeRet s c = (safeN s c, 0) := by
  unfold safeRet; rw [hc, askS_true hv]; simp
theorem canW_crew {s : Sea} {c : List Int} (hc : crewB s c = true) : canW s c = liftS s c := by unfold canW; rw [if_pos hc]
end Go.Proofs.Ytgjpllmmpclgaaa
