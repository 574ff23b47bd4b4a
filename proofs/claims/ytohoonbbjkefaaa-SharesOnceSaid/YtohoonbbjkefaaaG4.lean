import Derived.Test.YtohoonbbjkefaaaG3
namespace Go.Proofs.Ytohoonbbjkefaaa
open Go.RowKit

set_option maxRecDepth 100000 in
set_option maxHeartbeats 4000000 in
theorem split_no (A : Option Addr) (c : Nat) (ns : List Node) (node p : Int) (hn : ns.length ≤ 1000) (w : World) (hN : Nodes w w.heap.size A ns) (hz : splitE ns node p ≠ 0) :
    Calls Try.prog 33 #[.agg #[.slice A ns.length c], .int .i64 node, .int .i64 p] w fun e w' => e = .returned (.tuple #[.slice none 0 0, .int .i64 0, .int .i64 (splitE ns node p)]) ∧ Below w.heap.size w w' := by
  obtain ⟨ee, hee⟩ : ∃ ee, splitE ns node p = ee := ⟨_, rfl⟩
  rw [hee] at hz ⊢
  have hz2 : (ee != 0) = true := by simpa using hz
  obtain ⟨W0, hW0⟩ : ∃ W0, (w.alloc (.cells #[.slice A ns.length c] 24)).alloc (.cells #[.slice none 0 0] 40) = W0 := ⟨_, rfl⟩
  have E0 : Env w A c ns W0 := by rw [← hW0]; exact (Env.new c hN).alloc _
  have b2 : Boxed W0 (w.heap.size + 1) 40 (.slice none 0 0) := by
    have := Boxed.new (w.alloc (.cells #[.slice A ns.length c] 24)) 40 (.slice none 0 0)
    rw [← hW0]; simpa only [World.size_alloc] using this
  have EH := Lib.hid E0
  have l1 := extB_cell E0.bC.cell
  clear E0 hN
  cases g1 : inR node 0 (ns.length - 1) <;> cases g2 : inR p 0 400
  all_goals
    have G1 := Lib.hid g1
    have G2 := Lib.hid g2
    rw [splitE, g1, g2] at hee
    simp only [Bool.and_true, Bool.and_false] at hee
    have HE := Lib.hid hee
    clear hee g1 g2
    go_enter Try.func33, Try.ntmps33
    go_wp2
    clear hW0
    refine wp_region_ext (by kernel_rfl) (by kernel_rfl) ?_
    repeat (go_big_quiet_step (first
      | (go_at_call 61; exact ext_call (isNode_is _ _ _ _ _ hn _ G1.out))
      | (go_at_call 62; exact ext_same (isPence_is _ _ _ G2.out))
      | (go_at_call 60; exact ext_call (ask_is _ none _ 0 ns [] _ hn (by simp) _ (Nodes.lt EH.out.hN (extB_below _ _)) nodes_nil _ HE.out))))
    refine wpQuiet_nil ?_
    rintro _ ⟨x1, rfl⟩
    have hb1 := (EH.out.next (extB_below W0 x1)).hb
    have b3 := boxed_ext (extB_below W0 x1) b2
    have r1 := b3.cell
    have r2 := b3.frozen
    have q := (b3.set (.slice none 0 0)).cell
    go_wp2
    refine bodyPost_ret (v := .tuple #[.slice none 0 0, .int .i64 0, .int .i64 ee]) (by simp [results, Try.results33, go_sem, q]) rfl ⟨rfl, hb1.setCell (p := ⟨w.heap.size + 1, 0, none⟩) (by simp) _⟩
end Go.Proofs.Ytohoonbbjkefaaa
