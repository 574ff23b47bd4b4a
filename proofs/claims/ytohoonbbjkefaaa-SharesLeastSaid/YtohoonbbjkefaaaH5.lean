import Derived.Test.YtohoonbbjkefaaaH4
import Derived.Test.YtohoonbbjkefaaaN7
import Derived.Test.YtohoonbbjkefaaaN9
import Derived.Deep.RegionHeld3
import Derived.Deep.RegionHeldLaw
import Derived.Deep.DeepCutAuto
import Derived.Deep.AppendLies
namespace Go.Proofs.Ytohoonbbjkefaaa
open Go.RowKit

/-- 'append([]int{}, xs...)' at a step of a region that draws its order. -/
theorem step_copyI {ops : Array Oper} {o : Oper} {a : Act} {w : World} {K : Act → World → Prop} {Q : Exit → Act → World → Prop} {E : Prop} (hgd : o.guard = none) (s x : Operand)
    (ho : o.op = .call { callee := .builtin .append, args := #[s, x], argTypes := #[40, 40] }) (n₀ : Nat) (v : Value) (hs : a.eval s = v) (hown : Ints w n₀ v [])
    (A : Option Addr) (c : Nat) (l : List Int) (hA : A = none → c = 0 ∧ l = []) (hx : a.eval x = .slice A l.length c) (hI : IntsAt w w.heap.size A l) (hl : l.length ≤ 1000) (hn : n₀ ≤ w.heap.size)
    (h : ∀ v' w', Ints w' n₀ v' l → Below n₀ w w' → K (a.put o.dst v') w') :
    if Region.wanted o (yielded ops a.tmps) = true then Oper.wp Try.prog o a w K Q else E := by
  have hw : Region.wanted o (yielded ops a.tmps) = true := by simp [Region.wanted, hgd]
  rw [if_pos hw]
  obtain ⟨i0, hi, hz0, hz1, hz2⟩ := info_parts info3
  cases A with
  | none =>
    obtain ⟨rfl, rfl⟩ := hA rfl
    have hrun := run_append_owned_none (P := Try.prog) (w := w) n₀ 40 o.type 3 i0 1 Try.underlying40 hi v 0 [] hown
    have hk := h v w hown (Below.refl _ _)
    unfold Oper.wp
    simp [execOp, ho, resolve, invoke, builtin, hs, hx, hrun, Result.andThen]
    exact hk
  | some ad =>
    refine wp_append_own w s x 40 ho n₀ 3 i0 (.int .i64 0) 1 8 Try.underlying40 hi hz0 hz1 hz2 rfl (by decide) v 0 [] hs hown ad l.length c (l.map (.int .i64)) hx (by simp) ?_ ?_ ?_ ?_ hn ?_
    · intro j u hj
      rcases hI with rfl | ⟨b, off, e, _, hc⟩
      · simp at hj
      · cases e
        rw [List.getElem?_map] at hj
        cases hx : l[j]? with
        | none => rw [hx] at hj; simp at hj
        | some y =>
          rw [hx] at hj
          simp at hj
          subst hj
          rw [addr_add]
          exact hc j y hx
    · intro u hu
      obtain ⟨y, _, rfl⟩ := List.mem_map.1 hu
      rfl
    · unfold maxLen; omega
    · omega
    · intro v' w' h2 h3 _
      refine h v' w' ?_ (own_below hown h3 hn (Nat.le_refl _))
      unfold Ints
      simpa using h2

/-! The plain law of enough. -/
theorem enough_good {ns : List Node} (hv : validB ns = true) {l : List Int} (hc : coinsOK ns.length l = true) : enoughS ns l = firstE (enB ns l) 401 := by
  have : enE ns l = 0 := by unfold enE; rw [hc]; exact askE_good hv
  unfold enoughS
  rw [if_pos this]
theorem enB_less {ns : List Node} {l m : List Int} {p : Nat} (h : ∀ i, at0 m i ≤ at0 l i) (hp : enB ns l p = true) : enB ns m p = true := by
  unfold enB at hp ⊢
  rw [List.all_eq_true] at hp ⊢
  intro i hi
  have h1 := of_decide_eq_true (hp i hi)
  have h2 := h i
  exact decide_eq_true (by omega)
/-- What is found first is not later where it is so earlier. -/
theorem first_less {p q : Nat → Bool} (h : ∀ k, p k = true → q k = true) {n m : Nat} {f r : Int} (hpm : m < n ∧ p m = true) (hq : firstE q n = (r, f)) : f = 0 ∧ r ≤ m := by
  rcases firstE_cases q n with ⟨k, h1, h2, h3, h4⟩ | ⟨h1, _⟩
  · rw [h4] at hq
    cases hq
    refine ⟨rfl, ?_⟩
    by_cases hk : k ≤ m
    · omega
    · have := h3 m (by omega)
      rw [h m hpm.2] at this
      cases this
  · have := h1 m hpm.1
    rw [h m hpm.2] at this
    cases this
theorem less_at0 (l : List Int) (m : Nat) (i : Nat) : at0 (l.set m (at0 l m - 1)) i ≤ at0 l i := by
  rw [at0_set]
  split
  · rename_i h
    rw [h.1]; omega
  · exact Int.le_refl _
theorem coinsOK_all {N : Nat} {l : List Int} (h : coinsOK N l = true) : l.length = N ∧ ∀ i, i < N → 0 ≤ at0 l i ∧ at0 l i ≤ 400 := by
  unfold coinsOK at h
  rw [Bool.and_eq_true, decide_eq_true_eq, List.all_eq_true] at h
  refine ⟨h.1, fun i hi => ?_⟩
  have := h.2 (at0 l i) (List.mem_of_getElem? (at0_is (by omega)))
  exact inR_true.1 this
theorem coinsOK_less {N : Nat} {l : List Int} (h : coinsOK N l = true) {m : Nat} (hm : m < N) (h0 : at0 l m ≠ 0) : coinsOK N (l.set m (at0 l m - 1)) = true := by
  obtain ⟨h1, h2⟩ := coinsOK_all h
  refine coinsOK_yes (by rw [List.length_set]; exact h1) (fun k x hk hx => ?_)
  rw [List.length_set] at hk
  rw [List.getElem?_set] at hx
  split at hx
  · have hx' : m < l.length ∧ at0 l m - 1 = x := by simpa using hx
    obtain ⟨_, rfl⟩ := hx'
    have := h2 m hm
    exact inR_true.2 (by omega)
  · have := h2 k (by omega)
    rw [at0_is hk] at hx
    cases hx
    exact inR_true.2 this
/-- Whether the first k keep enough. -/
def enTo (ns : List Node) (l : List Int) (p : Nat) (k : Nat) : Bool := (List.range k).all (fun i => decide (at0 l i ≤ keptS ns p i))
theorem enTo_zero (ns : List Node) (l : List Int) (p : Nat) : enTo ns l p 0 = true := rfl
theorem enTo_succ (ns : List Node) (l : List Int) (p k : Nat) : enTo ns l p (k + 1) = (enTo ns l p k && decide (at0 l k ≤ keptS ns p k)) := by
  unfold enTo
  rw [List.range_succ, List.all_append]
  simp
theorem enTo_all (ns : List Node) (l : List Int) (p : Nat) : enTo ns l p ns.length = enB ns l p := rfl
end Go.Proofs.Ytohoonbbjkefaaa
