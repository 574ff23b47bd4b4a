import Derived.Test.YtgemmmdcpbajoaaT4
namespace Go.Proofs.Ytgemmmdcpbajoaa
open Go.RowKit

theorem bestOf_none {f : List Int → Int} {l : List (List Int)} : bestOf f l = none ↔ l = [] := by
  refine snoc_ind (P := fun l => bestOf f l = none ↔ l = []) (by simp [bestOf]) (fun l x ih => ?_) l
  rw [bestOf_snoc]
  cases h : bestOf f l with
  | none => simp [stepB]
  | some bm =>
    obtain ⟨b, m⟩ := bm
    simp only [stepB]
    split <;> simp
/-- The first of the least ones. -/
theorem bestOf_some {f : List Int → Int} {l : List (List Int)} : ∀ {p : List Int} {m : Int}, bestOf f l = some (p, m) → m = f p ∧ p ∈ l ∧ (∀ q ∈ l, m ≤ f q) ∧ ∃ a b, l = a ++ p :: b ∧ ∀ q ∈ a, m < f q := by
  refine snoc_ind (P := fun l => ∀ {p : List Int} {m : Int}, bestOf f l = some (p, m) → m = f p ∧ p ∈ l ∧ (∀ q ∈ l, m ≤ f q) ∧ ∃ a b, l = a ++ p :: b ∧ ∀ q ∈ a, m < f q) ?_ ?_ l
  · intro p m h; simp [bestOf] at h
  · intro l x ih p m h
    rw [bestOf_snoc] at h
    cases hb : bestOf f l with
    | none =>
      rw [hb] at h
      have hl := bestOf_none.1 hb
      subst hl
      simp only [stepB, Option.some.injEq, Prod.mk.injEq] at h
      obtain ⟨rfl, rfl⟩ := h
      exact ⟨rfl, by simp, by simp, [], [], by simp, by simp⟩
    | some bm =>
      obtain ⟨b, mb⟩ := bm
      rw [hb] at h
      obtain ⟨h1, h2, h3, a, c, h4, h5⟩ := ih hb
      simp only [stepB] at h
      by_cases hlt : f x < mb
      · rw [if_pos hlt] at h
        simp only [Option.some.injEq, Prod.mk.injEq] at h
        obtain ⟨rfl, rfl⟩ := h
        refine ⟨rfl, by simp, fun q hq => ?_, l, [], by simp, fun q hq => ?_⟩
        · rcases List.mem_append.1 hq with hq | hq
          · have := h3 q hq; omega
          · have : q = x := by simpa using hq
            subst this; omega
        · have := h3 q hq; omega
      · rw [if_neg hlt] at h
        simp only [Option.some.injEq, Prod.mk.injEq] at h
        obtain ⟨rfl, rfl⟩ := h
        refine ⟨h1, by simp [h2], fun q hq => ?_, a, c ++ [x], by rw [h4]; simp, h5⟩
        rcases List.mem_append.1 hq with hq | hq
        · exact h3 q hq
        · have : q = x := by simpa using hq
          subst this; omega
theorem packedC_ok {h : House} (hv : HOK h) (p : List Int) : ∀ (j : Nat) (c : Cask), (packedC h p)[j]? = some c → c.ok := fun j c hc => (casksTo_upto hv p _ (Nat.le_refl _) j c hc).ok (by have := hv.pl; omega)
theorem packedC_len (h : House) (p : List Int) : (packedC h p).length = 5 := casksTo_len _ _ _
end Go.Proofs.Ytgemmmdcpbajoaa
