import Derived.Test.YtohoonbbjkefaaaH1
namespace Go.Proofs.Ytohoonbbjkefaaa
open Go.RowKit

theorem enE_of {ns : List Node} {l : List Int} {b1 b2 : Bool} (h1 : decide (l.length = ns.length) = b1) (h2 : l.any (fun x => !inR x 0 400) = b2) : enE ns l = askE ns (b1 && !b2) [] := by
  unfold enE coinsOK
  rw [h1]
  have : l.all (fun x => inR x 0 400) = !b2 := by rw [← h2, ← List.not_all_eq_any_not]; simp
  rw [this]
set_option maxRecDepth 100000 in
set_option maxHeartbeats 4000000 in
theorem enough_any (A Al : Option Addr) (c cl : Nat) (ns : List Node) (l : List Int) (hn : ns.length ≤ 1000) (hl : l.length ≤ 1000) (w : World) (hN : Nodes w w.heap.size A ns) (hI : IntsAt w w.heap.size Al l) :
    Calls Try.prog 53 #[.agg #[.slice A ns.length c], .slice Al l.length cl] w fun e w' => e = .returned (.tuple #[.int .i64 (enoughS ns l).1, .int .i64 (enoughS ns l).2]) ∧ Below w.heap.size w w' := by
  obtain ⟨W0, hW0⟩ : ∃ W0, (w.alloc (.cells #[.slice A ns.length c] 24)).alloc (.cells #[.slice Al l.length cl] 40) = W0 := ⟨_, rfl⟩
  have b1 : Boxed W0 w.heap.size 24 (.slice A ns.length c) := by rw [← hW0]; exact (Boxed.new _ _ _).alloc _
  have b2 : Boxed W0 (w.heap.size + 1) 40 (.slice Al l.length cl) := by
    have := Boxed.new (w.alloc (.cells #[.slice A ns.length c] 24)) 40 (.slice Al l.length cl)
    rw [← hW0]; simpa only [World.size_alloc] using this
  have hB0 : Below w.heap.size w W0 := by rw [← hW0]; exact ((Below.refl _ w).alloc (Nat.le_refl _) _).alloc (by simp) _
  have hN0 : Nodes W0 W0.heap.size A ns := Nodes.lt hN hB0
  have hI0 : IntsAt W0 W0.heap.size Al l := ilt hI hB0
  have l1 := extB_cell b1.cell
  have l2 := extB_cell b2.cell
  have HN0 := Lib.hid hN0
  have HI0 := Lib.hid hI0
  clear hN hI hN0 hI0
  obtain ⟨t1, h1⟩ : ∃ b, decide (l.length = ns.length) = b := ⟨_, rfl⟩
  obtain ⟨t2, h2⟩ : ∃ b, l.any (fun x => !inR x 0 400) = b := ⟨_, rfl⟩
  have hE := enE_of h1 h2
  have G2 := Lib.hid h2
  have g1 : ((l.length : Int) == ns.length) = t1 := by
    rw [← h1, Bool.eq_iff_iff]
    simp only [beq_iff_eq, decide_eq_true_eq]
    omega
  cases t1 <;> cases t2
  all_goals
    simp only [Bool.and_true, Bool.and_false, Bool.not_true, Bool.not_false] at hE
    obtain ⟨ee, hee⟩ : ∃ ee, enE ns l = ee := ⟨_, rfl⟩
    rcases err_cases ee with rfl | ⟨hne, hneb⟩
    · have hs : enoughS ns l = firstE (enB ns l) 401 := if_pos hee
      have HS := Lib.hid hs
      rw [hE] at hee
      obtain ⟨z1, z2, _, _⟩ := askE_zero hee
      have HE := Lib.hid hee
      have hll := h1
      clear hs hE hee h1 h2
      first
        | (exfalso; revert z2; decide)
        | (have hg := good_of z1
           have HLL := Lib.hid (of_decide_eq_true hll)
           clear z1 z2 hll
           go_enter Try.func53, Try.ntmps53
           go_wp2
           clear hW0
           refine wp_region_ext (by kernel_rfl) (by kernel_rfl) ?_
           repeat (go_big_quiet_step (first
             | (go_at_call 87; exact ext_same (containsInt_is _ _ l hl _ (ilt HI0.out (extB_below _ _)) _ G2.out))
             | (go_at_call 60; exact ext_call (ask_is _ none _ 0 ns [] _ hn (by simp) _ (Nodes.lt HN0.out (extB_below _ _)) nodes_nil _ HE.out))))
           refine wpQuiet_nil ?_
           rintro _ ⟨x1, rfl⟩
           obtain ⟨W1, hW1⟩ : ∃ W1, extB W0 x1 = W1 := ⟨_, rfl⟩
           have hb1 := extB_below W0 x1
           rw [hW1] at hb1 ⊢
           rw [HLL.out] at b2
           clear hW1 l1 l2 g1
           have hb2 := hb0to hB0 hb1
           have HF := Lib.hid (first2_any 89 w.heap.size (w.heap.size + 1) 401 (by omega) (enB ns l) W1 (enters_of Try.func89 (by kernel_rfl) rfl) (fun k W hk hW => enough2_any w.heap.size (w.heap.size + 1) c cl A Al ns l k hg HLL.out (by omega) W (Nodes.lt HN0.out (hb1.trans (hW.mono hb1.size))) (ilt HI0.out (hb1.trans (hW.mono hb1.size)))
             ((hW.block _ (Nat.lt_of_lt_of_le b1.lt hb1.size)).trans ((hb1.block _ b1.lt).trans b1)) ((hW.block _ (Nat.lt_of_lt_of_le b2.lt hb1.size)).trans ((hb1.block _ b2.lt).trans b2))))
           go_wp2_with (go_at_call 63; refine HF.out.mono ?_; rintro e w2 ⟨rfl, hb3⟩)
           go_ret2
           exact ⟨by rw [HS.out]; rfl, hb2.trans (hb3.mono (by have := hB0.size; have := hb1.size; omega))⟩)
    · have hs : enoughS ns l = (0, ee) := by unfold enoughS; rw [hee]; exact if_neg hne
      have HS := Lib.hid hs
      rw [hE] at hee
      have HE := Lib.hid hee
      clear hs hE hee h1 h2
      go_enter Try.func53, Try.ntmps53
      go_wp2
      clear hW0
      refine wp_region_ext (by kernel_rfl) (by kernel_rfl) ?_
      repeat (go_big_quiet_step (first
        | (go_at_call 87; exact ext_same (containsInt_is _ _ l hl _ (ilt HI0.out (extB_below _ _)) _ G2.out))
        | (go_at_call 60; exact ext_call (ask_is _ none _ 0 ns [] _ hn (by simp) _ (Nodes.lt HN0.out (extB_below _ _)) nodes_nil _ HE.out))))
      refine wpQuiet_nil ?_
      rintro _ ⟨x1, rfl⟩
      have hb1 := hb0to hB0 (extB_below W0 x1)
      go_wp2
      go_ret2
      exact ⟨by rw [HS.out]; rfl, hb1⟩
end Go.Proofs.Ytohoonbbjkefaaa
