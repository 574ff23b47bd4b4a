import Derived.Test.YtohoonbbjkefaaaG2
namespace Go.Proofs.Ytohoonbbjkefaaa
open Go.RowKit

set_option maxRecDepth 100000 in
set_option maxHeartbeats 4000000 in
theorem split_ok (A : Option Addr) (c : Nat) (ns : List Node) (m : Nat) (p : Int) (hn : ns.length ≤ 1000) (w : World) (hN : Nodes w w.heap.size A ns) (hz : splitE ns m p = 0) :
    Calls Try.prog 33 #[.agg #[.slice A ns.length c], .int .i64 m, .int .i64 p] w fun e w' => ∃ B d, e = .returned (.tuple #[.slice B (kidsN ns m).length d, .int .i64 (splitL p (kidL ns m)).2, .int .i64 0]) ∧ IntsAt w' w'.heap.size B (splitL p (kidL ns m)).1 ∧ Below w.heap.size w w' := by
  obtain ⟨hg, hm, hp0, hp4⟩ := splitE_zero hz
  obtain ⟨W0, hW0⟩ : ∃ W0, (w.alloc (.cells #[.slice A ns.length c] 24)).alloc (.cells #[.slice none 0 0] 40) = W0 := ⟨_, rfl⟩
  have E0 : Env w A c ns W0 := by rw [← hW0]; exact (Env.new c hN).alloc _
  have b2 : Boxed W0 (w.heap.size + 1) 40 (.slice none 0 0) := by
    have := Boxed.new (w.alloc (.cells #[.slice A ns.length c] 24)) 40 (.slice none 0 0)
    rw [← hW0]; simpa only [World.size_alloc] using this
  have EH := Lib.hid E0
  have HN := Lib.hid hN
  have l1 := extB_cell E0.bC.cell
  have g1 : inR (m : Int) 0 (ns.length - 1) = true := inR_true.2 hm
  have g2 : inR p 0 400 = true := inR_true.2 ⟨hp0, hp4⟩
  have G1 := Lib.hid g1
  have G2 := Lib.hid g2
  have HE : Hid (askE ns true [] = 0) := Lib.hid (by rw [splitE, g1, g2] at hz; exact hz)
  clear hz g1 g2 E0 hN
  go_enter Try.func33, Try.ntmps33
  go_wp2
  clear hW0
  refine wp_region_ext (by kernel_rfl) (by kernel_rfl) ?_
  repeat (go_big_quiet_step (first
    | (go_at_call 61; exact ext_call (isNode_is _ _ _ _ _ hn _ G1.out))
    | (go_at_call 62; exact ext_same (isPence_is _ _ _ G2.out))
    | (go_at_call 60; exact ext_call (ask_is _ none _ 0 ns [] _ hn (by simp) _ (Nodes.lt EH.out.hN (extB_below _ _)) nodes_nil _ HE.out))))
  refine wpQuiet_nil ?_
  rintro _ ⟨x1, rfl⟩
  obtain ⟨W1, hW1⟩ : ∃ W1, extB W0 x1 = W1 := ⟨_, rfl⟩
  have hb01 := extB_below W0 x1
  have E1 := Lib.hid (EH.out.next (extB_below W0 x1))
  rw [hW1] at E1 hb01 ⊢
  have q0 := E1.out.bC.cell
  have b3 := boxed_ext hb01 b2
  clear hW1 l1
  go_wp2_with (go_at_call 72; go_must (refine (split_lists c (w.heap.size + 1) w.heap.size A ns m p hg hp0 hp4 W1 (by omega) (HN.out.below E1.out.hb) b3).mono ?_; rintro e w2 ⟨rfl, ⟨val, hbx, hin⟩, hk⟩; obtain ⟨B, d, rfl, _, hI⟩ := Ints.lay hin; have r1 := hbx.cell; have r2 := hbx.frozen))
  have hs1 : w.heap.size + 1 < W1.heap.size := b3.lt
  have hb2 : Below w.heap.size w w2 := E1.out.hb.trans ((hk.mono (S' := fun j => j = w.heap.size + 1) (by omega) (fun _ _ h => h)).below (fun j hj => by subst hj; omega))
  have q := (hbx.set (.slice B (splitL p (kidL ns m)).1.length d)).cell
  have hl : (splitL p (kidL ns m)).1.length = (kidsN ns m).length := by rw [splitL_len, kidL_len]
  have hI3 : IntsAt (w2.setCell ⟨w.heap.size + 1, 0, none⟩ (.slice B (splitL p (kidL ns m)).1.length d)) (w2.setCell ⟨w.heap.size + 1, 0, none⟩ (.slice B (splitL p (kidL ns m)).1.length d)).heap.size B (splitL p (kidL ns m)).1 := by
    have hne := hbx.not_row (by decide) hin
    have h2 : Ints (w2.setCell ⟨w.heap.size + 1, 0, none⟩ (.slice B (splitL p (kidL ns m)).1.length d)) (W1.heap.size + 5) (.slice B (splitL p (kidL ns m)).1.length d) (splitL p (kidL ns m)).1 := World.ownsRow.kept hin (grownBy_setCell' w2 (w.heap.size + 1) _) (.inr hne.symm)
    obtain ⟨B', d', e', _, hI'⟩ := Ints.lay h2
    injection e' with h3 _ _
    rw [← h3] at hI'
    exact hI'
  refine bodyPost_ret (v := .tuple #[.slice B (splitL p (kidL ns m)).1.length d, .int .i64 (splitL p (kidL ns m)).2, .int .i64 0]) (by simp [results, Try.results33, go_sem, q]) rfl ⟨B, d, by rw [hl], hI3, hb2.setCell (p := ⟨w.heap.size + 1, 0, none⟩) (by simp) _⟩
end Go.Proofs.Ytohoonbbjkefaaa
