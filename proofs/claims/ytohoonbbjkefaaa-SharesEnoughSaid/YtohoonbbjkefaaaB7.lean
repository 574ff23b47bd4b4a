import Derived.Test.YtohoonbbjkefaaaB6
import Derived.Test.YtohoonbbjkefaaaE1
import Derived.WalkSpells
namespace Go.Proofs.Ytohoonbbjkefaaa
open Go.RowKit

def setW (ns : List Node) (k : Nat) (x : Int) : List Node := ns.set k { nodeAt ns k with w := x }
theorem setW_len (ns : List Node) (k : Nat) (x : Int) : (setW ns k x).length = ns.length := by simp [setW]
theorem nodes_setw {W : World} {B b off : Nat} {ns : List Node} (h : Nodes W B (some ⟨b, off, none⟩) ns) {k : Nat} (_hk : k < ns.length) (x : Int) :
    Nodes (W.setCell ⟨b, off + k * 3 + 1, none⟩ (.int .i64 x)) B (some ⟨b, off, none⟩) (setW ns k x) := by
  rcases h with rfl | ⟨b', off', e, hlt, hc⟩
  · exact .inl rfl
  · cases e
    refine .inr ⟨b, off, rfl, hlt, fun i y hy => ?_⟩
    unfold setW at hy
    rw [List.getElem?_set] at hy
    have ot : ∀ o, o ≠ off + k * 3 + 1 → (W.setCell ⟨b, off + k * 3 + 1, none⟩ (.int .i64 x)).cell? ⟨b, o, none⟩ = W.cell? ⟨b, o, none⟩ := fun o ho =>
      World.cell?_setCell_other _ _ _ _ (fun e => ho (by cases e; rfl))
    split at hy
    · rename_i e
      subst e
      cases hy
      obtain ⟨c1, c2, c3⟩ := hc k _ (GoodC.at_ _hk)
      refine ⟨?_, World.cell?_setCell_same _ _ _ c2, ?_⟩
      · rw [ot _ (by omega)]; exact c1
      · rw [ot _ (by omega)]; exact c3
    · obtain ⟨c1, c2, c3⟩ := hc i y hy
      rw [ot _ (by omega), ot _ (by omega), ot _ (by omega)]
      exact ⟨c1, c2, c3⟩
theorem nodes_other {W : World} {B B' b off : Nat} {ns : List Node} (h : Nodes W B (some ⟨b, off, none⟩) ns) {p : Addr} (hp : p.block ≠ b) (v : Value) (hB : B ≤ B') : Nodes (W.setCell p v) B' (some ⟨b, off, none⟩) ns := by
  rcases h with rfl | ⟨b', off', e, hlt, hc⟩
  · exact .inl rfl
  · cases e
    refine .inr ⟨b, off, rfl, by omega, fun i y hy => ?_⟩
    rw [World.cell?_setCell_other _ _ _ _ (fun e => hp (by rw [e])), World.cell?_setCell_other _ _ _ _ (fun e => hp (by rw [e])), World.cell?_setCell_other _ _ _ _ (fun e => hp (by rw [e]))]
    exact hc i y hy
/-- What is owned, written out. -/
theorem OwnsN.some_ {W : World} {t : TypeId} {base : Nat} {v : Value} {ns : List Node} (h : OwnsN W t base v ns) (h1 : 1 ≤ ns.length) : ∃ g cap, v = .slice (some ⟨g, 0, none⟩) ns.length cap ∧ base ≤ g ∧ Nodes W W.heap.size (some ⟨g, 0, none⟩) ns ∧ ∀ o, W.frozen? ⟨g, o, none⟩ = false := by
  obtain ⟨A, c, e, hA, hN⟩ := h.lay
  rcases h.2 with ⟨e2, h0⟩ | ⟨g, cap, cur, e2, hb, hg, h4⟩
  · omega
  · refine ⟨g, cap, e2, hb, ?_, fun o => by simp [World.frozen?, hg]⟩
    rw [e] at e2
    cases e2
    exact hN

set_option maxRecDepth 100000 in
set_option maxHeartbeats 1000000 in
theorem clone_any (b off c : Nat) (ns : List Node) (h1 : 1 ≤ ns.length) (hn : ns.length ≤ 1000) (w : World) (hN : Nodes w w.heap.size (some ⟨b, off, none⟩) ns) :
    Calls Try.prog 95 #[.slice (some ⟨b, off, none⟩) ns.length c] w fun e w' => ∃ g cap, e = .returned (.slice (some ⟨g, 0, none⟩) ns.length cap) ∧ w.heap.size ≤ g ∧ Nodes w' w'.heap.size (some ⟨g, 0, none⟩) ns ∧ (∀ o, w'.frozen? ⟨g, o, none⟩ = false) ∧ Below w.heap.size w w' := by
  obtain ⟨i0, hi, hz0, hz1, hz2⟩ := info_parts info46
  have ow := ownsN_made w 46 w.heap.size (Nat.le_refl _)
  have HN := Lib.hid (Nodes.alloc hN (.cells #[] 46))
  clear hN
  have hq := fun w : World => Lib.run_eql_slice_nil w 22 46 (some ⟨b, off, none⟩) ns.length c 0 0 Try.underlying22
  go_enter Try.func95, Try.ntmps95
  go_wp2_with (at_builtin; go_must (refine wpl_copy rfl _ _ 22 46 Try.underlying22 hi hz0 hz1 hz2 rfl w.heap.size _ rfl ow _ c ns (fun h => by cases h) rfl HN.out hn (by simp) ?_; intro v' w1 hown hb1))
  obtain ⟨g, cap, rfl, hg, hNN, hf⟩ := hown.some_ h1
  go_wp2
  go_ret
  exact ⟨g, cap, rfl, hg, hNN, hf, ((Below.refl _ w).alloc (Nat.le_refl _) _).trans hb1⟩

set_option maxRecDepth 100000 in
set_option maxHeartbeats 4000000 in
theorem with_any (b off c : Nat) (ns : List Node) (k : Nat) (x : Int) (hk : k < ns.length) (hn : ns.length ≤ 1000) (w : World) (hN : Nodes w w.heap.size (some ⟨b, off, none⟩) ns) :
    Calls Try.prog 77 #[.agg #[.slice (some ⟨b, off, none⟩) ns.length c], .int .i64 k, .int .i64 x] w fun e w' => ∃ g cap, e = .returned (.agg #[.slice (some ⟨g, 0, none⟩) ns.length cap]) ∧ Nodes w' w'.heap.size (some ⟨g, 0, none⟩) (setW ns k x) ∧ Below w.heap.size w w' := by
  obtain ⟨W0, hW0⟩ : ∃ W0, (w.alloc (.cells #[.slice (some ⟨b, off, none⟩) ns.length c] 80)).alloc (.cells #[.slice none 0 0] 80) = W0 := ⟨_, rfl⟩
  have b1 : Boxed W0 w.heap.size 80 (.slice (some ⟨b, off, none⟩) ns.length c) := by rw [← hW0]; exact (Boxed.new _ _ _).alloc _
  have b2 : Boxed W0 (w.heap.size + 1) 80 (.slice none 0 0) := by
    have := Boxed.new (w.alloc (.cells #[.slice (some ⟨b, off, none⟩) ns.length c] 80)) 80 (.slice none 0 0)
    rw [← hW0]; simpa only [World.size_alloc] using this
  have hB0 : Below w.heap.size w W0 := by rw [← hW0]; exact ((Below.refl _ w).alloc (Nat.le_refl _) _).alloc (by simp) _
  have hN0 : Nodes W0 W0.heap.size (some ⟨b, off, none⟩) ns := nlt hN hB0
  have q1 := b1.cell
  have hs0 : w.heap.size + 2 ≤ W0.heap.size := by rw [← hW0]; simp
  have HC := Lib.hid (clone_any b off c ns (by omega) hn W0 hN0)
  clear hN0 hN
  go_enter Try.func77, Try.ntmps77
  go_wp2_with (go_at_call 95; refine HC.out.mono ?_; rintro e w1 ⟨g, cap, rfl, hg, hN1, hf1, hb1⟩; have r1 := (boxed_ext hb1 b1).cell; have r2 := (boxed_ext hb1 b1).frozen; have r3 := (boxed_ext hb1 b2).cell; have r4 := (boxed_ext hb1 b2).frozen; obtain ⟨_, _, ee, _, _, d2, _⟩ := hN1.at_ (GoodC.at_ hk); cases ee; rw [Nat.zero_add] at d2)
  have s1 : Boxed ((w1.setCell ⟨w.heap.size, 0, none⟩ (.slice (some ⟨g, 0, none⟩) ns.length cap)).setCell ⟨g, k * 3 + 1, none⟩ (.int .i64 x)) (w.heap.size + 1) 80 (.slice none 0 0) :=
    boxed_other' (boxed_other' (boxed_ext hb1 b2) (by show w.heap.size + 1 ≠ w.heap.size; omega) _) (by show w.heap.size + 1 ≠ g; omega) _
  have s2 := (s1.set (.slice (some ⟨g, 0, none⟩) ns.length cap)).cell
  refine bodyPost_ret (v := .agg #[.slice (some ⟨g, 0, none⟩) ns.length cap]) (by simp [results, Try.results77, go_sem, s2]) rfl ⟨g, cap, rfl, ?_, ?_⟩
  · have := nodes_setw (nodes_other hN1 (p := ⟨w.heap.size, 0, none⟩) (by show w.heap.size ≠ g; omega) (.slice (some ⟨g, 0, none⟩) ns.length cap) (Nat.le_refl _)) hk x
    rw [Nat.zero_add] at this
    exact nodes_other this (p := ⟨w.heap.size + 1, 0, none⟩) (by show w.heap.size + 1 ≠ g; omega) _ (by simp)
  · have hB := hb0to hB0 hb1
    exact ((hB.setCell (p := ⟨w.heap.size, 0, none⟩) (Nat.le_refl _) _).setCell (p := ⟨g, k * 3 + 1, none⟩) (by show w.heap.size ≤ g; omega) _).setCell (p := ⟨w.heap.size + 1, 0, none⟩) (by simp) _
end Go.Proofs.Ytohoonbbjkefaaa
