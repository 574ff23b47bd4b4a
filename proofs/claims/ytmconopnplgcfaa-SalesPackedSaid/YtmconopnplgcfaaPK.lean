import Derived.Test.YtmconopnplgcfaaEA
namespace Go.Proofs.Ytmconopnplgcfaa
open Go.RowKit

/-! Packings, the least one first; the best of them. -/
def packsF (f : Fair) : Nat → List Int → List (List Int)
  | 0, p => if goodB f.h p = true then [p] else []
  | n + 1, p => (List.range f.h.bs.length).flatMap fun b : Nat => packsF f n (p ++ [(b : Int)])
def packsTo (f : Fair) (n : Nat) (p : List Int) (k : Nat) : List (List Int) := (List.range k).flatMap fun b : Nat => packsF f n (p ++ [(b : Int)])
theorem packsTo_zero (f : Fair) (n : Nat) (p : List Int) : packsTo f n p 0 = [] := rfl
theorem packsTo_succ (f : Fair) (n : Nat) (p : List Int) (k : Nat) : packsTo f n p (k + 1) = packsTo f n p k ++ packsF f n (p ++ [(k : Int)]) := by
  unfold packsTo; rw [List.range_succ, List.flatMap_append]; simp
theorem packsTo_all (f : Fair) (n : Nat) (p : List Int) : packsTo f n p f.h.bs.length = packsF f (n + 1) p := rfl
theorem packsTo_len {f : Fair} {n M : Nat} {p : List Int} (h : ∀ q, (packsF f n q).length ≤ M) : ∀ k, (packsTo f n p k).length ≤ M * k
  | 0 => by rw [packsTo_zero]; simp
  | k + 1 => by
    have ih := packsTo_len (p := p) h k
    have h2 := h (p ++ [(k : Int)])
    rw [packsTo_succ, List.length_append, Nat.mul_succ]
    omega
theorem packsF_len (f : Fair) : ∀ (n : Nat) (p : List Int), (packsF f n p).length ≤ f.h.bs.length ^ n
  | 0, p => by unfold packsF; split <;> simp
  | n + 1, p => by
    rw [← packsTo_all, Nat.pow_succ]
    exact packsTo_len (packsF_len f n) _
theorem mem_packsF {f : Fair} : ∀ {n : Nat} {pre p : List Int}, p ∈ packsF f n pre ↔ ∃ t, p = pre ++ t ∧ t.length = n ∧ (∀ x ∈ t, 0 ≤ x ∧ x < f.h.bs.length) ∧ goodB f.h p = true
  | 0, pre, p => by
    unfold packsF
    constructor
    · intro h
      split at h
      · rename_i hg
        rw [List.mem_singleton] at h
        subst h
        exact ⟨[], by simp, rfl, by simp, hg⟩
      · simp at h
    · rintro ⟨t, rfl, ht, _, hg⟩
      have := List.length_eq_zero_iff.1 ht
      subst this
      rw [List.append_nil] at hg ⊢
      rw [if_pos hg]; simp
  | n + 1, pre, p => by
    unfold packsF
    rw [List.mem_flatMap]
    constructor
    · rintro ⟨b, hb, hp⟩
      obtain ⟨t, rfl, ht, hx, hg⟩ := mem_packsF.1 hp
      rw [List.mem_range] at hb
      refine ⟨(b : Int) :: t, by simp, by simp [ht], fun x hm => ?_, by simpa using hg⟩
      rcases List.mem_cons.1 hm with rfl | hm
      · omega
      · exact hx x hm
    · rintro ⟨t, rfl, ht, hx, hg⟩
      match t, ht with
      | x :: t, ht =>
        have h0 := hx x (by simp)
        refine ⟨x.toNat, List.mem_range.2 (by omega), mem_packsF.2 ⟨t, ?_, by simpa using ht, fun y hy => hx y (by simp [hy]), ?_⟩⟩
        · rw [show ((x.toNat : Nat) : Int) = x by omega]; simp
        · exact hg
theorem earlier_asymm : ∀ {a b : List Int}, earlierB a b = true → earlierB b a = false
  | [], _, h => by simp [earlierB] at h
  | _ :: _, [], h => by simp [earlierB] at h
  | x :: a, y :: b, h => by
    unfold earlierB at h ⊢
    by_cases e : x = y
    · subst e
      rw [if_pos rfl] at h ⊢
      exact earlier_asymm h
    · rw [if_neg e, decide_eq_true_eq] at h
      rw [if_neg (fun h2 => e h2.symm)]
      exact decide_eq_false (by omega)
theorem earlier_irr : ∀ a : List Int, earlierB a a = false
  | [] => rfl
  | x :: a => by unfold earlierB; rw [if_pos rfl]; exact earlier_irr a
theorem packs_sorted (f : Fair) : ∀ (n : Nat) (p : List Int), (packsF f n p).Pairwise fun a b => earlierB a b = true
  | 0, p => by unfold packsF; split <;> simp
  | n + 1, p => by
    unfold packsF
    rw [List.pairwise_flatMap]
    refine ⟨fun b _ => packs_sorted f n _, ?_⟩
    refine List.pairwise_lt_range.imp fun {a b} hab x hx y hy => ?_
    obtain ⟨t, rfl, _⟩ := mem_packsF.1 hx
    obtain ⟨u, rfl, _⟩ := mem_packsF.1 hy
    rw [List.append_assoc, List.append_assoc, earlier_pre]
    show earlierB ((a : Int) :: t) ((b : Int) :: u) = true
    unfold earlierB
    rw [if_neg (by omega)]
    exact decide_eq_true (by omega)
/-- What the best sales bring with a packing. -/
def gP (f : Fair) (p : List Int) : Int := mostV f.q (readyL f.h p f.day)
def stepP (f : Fair) (st : List Int × Int) (p : List Int) : List Int × Int := if st.2 < gP f p then (p, gP f p) else st
def bestP (f : Fair) (st : List Int × Int) (l : List (List Int)) : List Int × Int := l.foldl (stepP f) st
theorem bestP_nil (f : Fair) (st : List Int × Int) : bestP f st [] = st := rfl
theorem bestP_one (f : Fair) (st : List Int × Int) (p : List Int) : bestP f st [p] = stepP f st p := rfl
theorem bestP_app (f : Fair) (st : List Int × Int) (l m : List (List Int)) : bestP f st (l ++ m) = bestP f (bestP f st l) m := List.foldl_append
def BestOf (f : Fair) (done : List (List Int)) (st : List Int × Int) : Prop :=
  (done = [] ∧ st = ([], -1)) ∨ (st.1 ∈ done ∧ st.2 = gP f st.1 ∧ ∀ p ∈ done, gP f p ≤ st.2 ∧ (gP f p = st.2 → earlierB p st.1 = false))
theorem bestP_is {f : Fair} (h0 : ∀ p, 0 ≤ gP f p) : ∀ (l done : List (List Int)) (st : List Int × Int), (done ++ l).Pairwise (fun a b => earlierB a b = true) → BestOf f done st → BestOf f (done ++ l) (bestP f st l)
  | [], done, st, _, h => by rw [List.append_nil]; exact h
  | p :: l, done, st, hs, h => by
    have e : done ++ p :: l = (done ++ [p]) ++ l := by simp
    rw [e] at hs ⊢
    refine bestP_is h0 l (done ++ [p]) (stepP f st p) hs ?_
    have hs2 := (List.pairwise_append.1 (List.pairwise_append.1 hs).1).2.2
    have hp0 := h0 p
    unfold stepP
    rcases h with ⟨rfl, rfl⟩ | ⟨h1, h2, h3⟩
    · rw [if_pos (by show -1 < gP f p; omega)]
      refine .inr ⟨by simp, rfl, fun q hq => ?_⟩
      simp at hq
      subst hq
      exact ⟨Int.le_refl _, fun _ => earlier_irr _⟩
    · by_cases hlt : st.2 < gP f p
      · rw [if_pos hlt]
        refine .inr ⟨by simp, rfl, fun q hq => ?_⟩
        rcases List.mem_append.1 hq with hq | hq
        · have := (h3 q hq).1
          exact ⟨by show gP f q ≤ gP f p; omega, fun e => by have e : gP f q = gP f p := e; omega⟩
        · simp at hq
          subst hq
          exact ⟨Int.le_refl _, fun _ => earlier_irr _⟩
      · rw [if_neg hlt]
        refine .inr ⟨by simp [h1], h2, fun q hq => ?_⟩
        rcases List.mem_append.1 hq with hq | hq
        · exact h3 q hq
        · simp at hq
          subst hq
          exact ⟨by omega, fun _ => earlier_asymm (hs2 _ h1 _ (by simp))⟩

end Go.Proofs.Ytmconopnplgcfaa
