import Derived.Test.YtohoonbbjkefaaaB9
import Derived.Maps.OwnSet
import Derived.Maps.Views
namespace Go.Proofs.Ytohoonbbjkefaaa
open Go.RowKit

/-- The map that counts what has been seen. -/
def SeenM (W : World) (b : Nat) (keys : List Int) : Prop :=
  ∃ D : DataW Unit, W.ownsMap Try.prog 3 (plainElem Try.prog 3) b keys.length D ∧ Maps.Tidy D ∧
    (∀ k : Int, 0 ≤ k → k ≤ 1000 → Maps.has D (.int .i64 k) = decide (k ∈ keys) ∧ D.atKey (.int .i64 k) (.lit (.int .i64 0)) = .lit (.int .i64 (keys.count k))) ∧
    Maps.size D ≤ keys.length ∧ (Maps.size D = keys.length ↔ keys.Nodup)
theorem seen_made (w : World) : SeenM (w.alloc (.map #[] 0)) w.heap.size [] :=
  ⟨.map [], World.ownsMap_made w _ _ _, ⟨[], rfl, List.Pairwise.nil⟩, fun k _ _ => ⟨rfl, rfl⟩, Nat.le_refl _, by simp [Maps.size]⟩
theorem SeenM.grown {W W' : World} {b : Nat} {keys : List Int} {row : Option Nat} (h : SeenM W b keys) (hg : W.grownBy W' row) (hr : some b ≠ row) : SeenM W' b keys := by
  obtain ⟨D, h1, h2⟩ := h
  exact ⟨D, h1.kept hg hr, h2⟩
theorem SeenM.lt {W : World} {b : Nat} {keys : List Int} (h : SeenM W b keys) : b < W.heap.size := by obtain ⟨D, h1, _⟩ := h; exact h1.lt
theorem SeenM.below {W W' : World} {b n : Nat} {keys : List Int} (h : SeenM W b keys) (hb : Below n W W') (hn : W.heap.size ≤ n) : SeenM W' b keys := by
  have hlt := SeenM.lt h
  exact SeenM.grown (row := none) h ⟨hb.os, hb.tape, hb.output, hb.size, fun i hi _ => hb.block i (by omega)⟩ (by simp)
theorem wf_1000 {k : Int} (h0 : 0 ≤ k) (h1 : k ≤ 1000) : (Lit.int .i64 k).wf = true := WalkArith.wf_i64 (by omega)
set_option maxRecDepth 100000 in
theorem SeenM.step {W : World} {b : Nat} {keys : List Int} (h : SeenM W b keys) (k : Int) (h0 : 0 ≤ k) (h1 : k ≤ 1000) (hl : keys.length ≤ 100) :
    (Instr.lookup 95 (.map (some b)) (.int .i64 k) false).run Try.prog W = .ok (.int .i64 (keys.count k)) W ∧
    ∃ W', (Instr.mapUpdate 95 (.map (some b)) (.int .i64 k) (.int .i64 (keys.count k + 1))).run Try.prog W = .ok () W' ∧ SeenM W' b (keys ++ [k]) ∧ W.grownBy W' (some b) := by
  obtain ⟨D, hown, hT, hat, hs, hsn⟩ := h
  have K : Maps.Keyed Try.prog 3 := Maps.int_keyed Try.underlying3
  have hkey : keyOf Try.prog 3 (.int .i64 k) = some (.int .i64 k) := Maps.keyOf_int_mk Try.underlying3 (wf_1000 h0 h1)
  have hc := List.count_le_length (a := k) (l := keys)
  have hkl : WideAt.IsKeyLit (Lit.int .i64 k) := by trivial
  refine ⟨?_, ?_⟩
  · obtain ⟨c, hrun, hc2, _⟩ := hown.lookup_int K Try.underlying95 Try.underlying3 (Try.zeroValue3 _) hkey
    have e : c = keys.count k := by
      have := hc2.symm.trans (hat k h0 h1).2
      injection this with this
      injection this
    exact hrun.trans (by rw [e])
  · obtain ⟨W', hrun, hw, htn⟩ := hown.store K Try.underlying95 (by unfold maxLen; omega) hkey (plainElem_int (H := Unit) Try.underlying3 (q := .i64) (a := (keys.count k : Int) + 1) (WalkArith.wf_i64 (by omega)))
    refine ⟨W', hrun, ⟨_, by rw [List.length_append]; exact hw, hT.put hkl _, fun i hi0 hi1 => ?_, ?_, ?_⟩, htn.grown⟩
    · by_cases e : i = k
      · subst e
        refine ⟨?_, ?_⟩
        · rw [Maps.has_put_same hT.isMap hkl]; simp
        · rw [Maps.atKey_put_same hT.isMap hkl, List.count_append]; simp
      · have hne : Lit.int .i64 i ≠ Lit.int .i64 k := fun h => e (by injection h)
        refine ⟨?_, ?_⟩
        · rw [Maps.has_put_other hne, (hat i hi0 hi1).1]; simp [e]
        · rw [Maps.atKey_put_other hne, (hat i hi0 hi1).2, List.count_append]
          have : List.count i [k] = 0 := by simp [Ne.symm e]
          rw [this]; rfl
    · rw [Maps.size_put hT, List.length_append]
      split <;> simp <;> omega
    · rw [Maps.size_put hT, (hat k h0 h1).1, List.length_append]
      by_cases hm : k ∈ keys
      · simp only [hm, decide_true, if_true, List.length_singleton]
        constructor
        · intro h; omega
        · intro h
          rw [List.nodup_append] at h
          exact absurd rfl (h.2.2 k hm k (List.mem_singleton.2 rfl))
      · simp only [hm, decide_false, List.length_singleton]
        rw [List.nodup_append]
        simp only [Bool.false_eq_true, if_false, Nat.add_right_cancel_iff, hsn]
        constructor
        · intro h
          refine ⟨h, by simp, fun a ha b hb e => ?_⟩
          rw [List.mem_singleton] at hb
          subst hb; subst e
          exact hm ha
        · exact fun h => h.1
theorem SeenM.len_ {W : World} {b : Nat} {keys : List Int} (h : SeenM W b keys) (_hl : keys.length ≤ 100) :
    ∃ sz : Nat, (∀ ty, (Builtin.len_ #[95] ty #[.map (some b)]).run Try.prog W = .ok (.int .i64 sz) W) ∧ ((sz : Int) == keys.length) = decide keys.Nodup := by
  obtain ⟨D, hown, hT, hat, hs, hsn⟩ := h
  refine ⟨Maps.size D, fun ty => hown.len Try.underlying95 ty, ?_⟩
  rw [Bool.eq_iff_iff]
  simp only [beq_iff_eq, decide_eq_true_eq, ← hsn]
  omega
end Go.Proofs.Ytohoonbbjkefaaa
