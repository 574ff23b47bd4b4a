import Derived.Test.YtohoonbbjkefaaaB4
namespace Go.Proofs.Ytohoonbbjkefaaa
open Go.RowKit

def fallsS (ns : List Node) (node : Int) : Int × Int :=
  if askE ns (inR node 0 (ns.length - 1)) [] = 0 then firstE (fun k => decide (gotS ns (k + 1) node.toNat < gotS ns k node.toNat)) 400 else (0, askE ns (inR node 0 (ns.length - 1)) [])

theorem boxed_ext {w W : World} {b : Nat} {t : TypeId} {v : Value} (hb : Below w.heap.size w W) (h : Boxed w b t v) : Boxed W b t v := (hb.block _ h.lt).trans h

set_option maxRecDepth 100000 in
set_option maxHeartbeats 4000000 in
theorem falls_any (A : Option Addr) (c : Nat) (ns : List Node) (node : Int) (hn : ns.length ≤ 1000) (w : World) (hN : Nodes w w.heap.size A ns) :
    Calls Try.prog 21 #[.agg #[.slice A ns.length c], .int .i64 node] w fun e w' => e = .returned (.tuple #[.int .i64 (fallsS ns node).1, .int .i64 (fallsS ns node).2]) ∧ Below w.heap.size w w' := by
  obtain ⟨W0, hW0⟩ : ∃ W0, (w.alloc (.cells #[.slice A ns.length c] 24)).alloc (.cells #[.int .i64 node] 3) = W0 := ⟨_, rfl⟩
  have b1 : Boxed W0 w.heap.size 24 (.slice A ns.length c) := by rw [← hW0]; exact (Boxed.new _ _ _).alloc _
  have b2 : Boxed W0 (w.heap.size + 1) 3 (.int .i64 node) := by
    have := Boxed.new (w.alloc (.cells #[.slice A ns.length c] 24)) 3 (.int .i64 node)
    rw [← hW0]; simpa only [World.size_alloc] using this
  have hB0 : Below w.heap.size w W0 := by rw [← hW0]; exact ((Below.refl _ w).alloc (Nat.le_refl _) _).alloc (by simp) _
  have hN0 : Nodes W0 W0.heap.size A ns := Nodes.lt hN hB0
  have l1 := extB_cell b1.cell
  have l2 := extB_cell b2.cell
  cases g1 : inR node 0 (ns.length - 1)
  all_goals
    have G1 := Lib.hid g1
    obtain ⟨ee, hee⟩ : ∃ ee, askE ns (inR node 0 (ns.length - 1)) [] = ee := ⟨_, rfl⟩
    have hef := hee
    rw [g1] at hee
    rcases err_cases ee with rfl | ⟨hne, hneb⟩
    · have hs : fallsS ns node = firstE (fun k => decide (gotS ns (k + 1) node.toNat < gotS ns k node.toNat)) 400 := if_pos hef
      have HS := Lib.hid hs
      obtain ⟨z1, z2, _, _⟩ := askE_zero hee
      have HE := Lib.hid hee
      clear hs hef g1 hee
      first
        | (exfalso; revert z2; decide)
        | (have hg := good_of z1
           obtain ⟨m, rfl⟩ : ∃ m : Nat, node = m := ⟨node.toNat, by have := (inR_true.1 G1.out).1; omega⟩
           have hm : m < ns.length := by have := (inR_true.1 G1.out).2; omega
           clear z1 z2
           go_enter Try.func21, Try.ntmps21
           go_wp2
           clear hW0
           refine wp_region_ext (by kernel_rfl) (by kernel_rfl) ?_
           repeat (go_big_quiet_step (first
             | (go_at_call 61; exact ext_call (isNode_is _ _ _ _ _ hn _ G1.out))
             | (go_at_call 60; exact ext_call (ask_is _ none _ 0 ns [] _ hn (by simp) _ (Nodes.lt hN0 (extB_below _ _)) nodes_nil _ HE.out))))
           refine wpQuiet_nil ?_
           rintro _ ⟨x1, rfl⟩
           obtain ⟨W1, hW1⟩ : ∃ W1, extB W0 x1 = W1 := ⟨_, rfl⟩
           have hb1 := extB_below W0 x1
           have m1 := l1 x1
           have m2 := l2 x1
           rw [hW1] at hb1 m1 m2 ⊢
           clear hW1 l1 l2
           have hb2 := hb0to hB0 hb1
           have Hb1 := boxed_ext hb1 b1
           have Hb2 := boxed_ext hb1 b2
           have hN1 := Nodes.lt hN0 hb1
           have b3 := Boxed.new W1 80 (.slice A ns.length c)
           have Hb2a := Hb2.alloc (.cells #[.slice A ns.length c] 80)
           have HF := Lib.hid (first2_any 68 W1.heap.size (w.heap.size + 1) 400 (by omega) (fun k => decide (gotS ns (k + 1) m < gotS ns k m)) (W1.alloc (.cells #[.slice A ns.length c] 80)) (enters_of Try.func68 (by kernel_rfl) rfl) (fun k W hk hW => falls1_any W1.heap.size (w.heap.size + 1) c A m k hg hm hk W (Nodes.lt (Nodes.alloc hN1 _) hW)
             (boxed_ext hW b3) (boxed_ext hW Hb2a)))
           clear b3 Hb2a
           go_wp2_with (go_at_call 63; refine HF.out.mono ?_; rintro e w2 ⟨rfl, hb3⟩)
           go_ret2
           exact ⟨by rw [HS.out]; rfl, hb2.trans (((Below.refl _ W1).alloc (Nat.le_refl _) _).trans (hb3.mono (by simp)) |>.mono (by have := hB0.size; have := hb1.size; omega))⟩)
    · have hs : fallsS ns node = (0, ee) := by unfold fallsS; rw [hef]; exact if_neg hne
      have HS := Lib.hid hs
      have HE := Lib.hid hee
      clear hs hef g1 hee
      go_enter Try.func21, Try.ntmps21
      go_wp2
      clear hW0
      refine wp_region_ext (by kernel_rfl) (by kernel_rfl) ?_
      repeat (go_big_quiet_step (first
        | (go_at_call 61; exact ext_call (isNode_is _ _ _ _ _ hn _ G1.out))
        | (go_at_call 60; exact ext_call (ask_is _ none _ 0 ns [] _ hn (by simp) _ (Nodes.lt hN0 (extB_below _ _)) nodes_nil _ HE.out))))
      refine wpQuiet_nil ?_
      rintro _ ⟨x1, rfl⟩
      have hb1 := hb0to hB0 (extB_below W0 x1)
      go_wp2
      go_ret2
      exact ⟨by rw [HS.out]; rfl, hb1⟩

/-- The error of a custom asked for pence. -/
def penceE (ns : List Node) (p : Int) : Int := askE ns (inR p 0 400) []
theorem penceE_zero {ns : List Node} {p : Int} (h : penceE ns p = 0) : GoodC ns ∧ 0 ≤ p ∧ p ≤ 400 := by
  obtain ⟨z1, z2, _, _⟩ := askE_zero h
  exact ⟨good_of z1, (inR_true.1 z2).1, (inR_true.1 z2).2⟩

set_option maxRecDepth 100000 in
set_option maxHeartbeats 4000000 in
theorem getsAll_ok (A : Option Addr) (c : Nat) (ns : List Node) (p : Int) (hn : ns.length ≤ 1000) (w : World) (hN : Nodes w w.heap.size A ns) (hz : penceE ns p = 0) :
    Calls Try.prog 48 #[.agg #[.slice A ns.length c], .int .i64 p] w fun e w' => ∃ b, e = .returned (.tuple #[.slice (some ⟨b, 0, none⟩) ns.length ns.length, .int .i64 0]) ∧ w.heap.size ≤ b ∧ Row w' b (gotsS ns p) ∧ Below w.heap.size w w' := by
  obtain ⟨hg, hp0, hp4⟩ := penceE_zero hz
  obtain ⟨W0, hW0⟩ : ∃ W0, w.alloc (.cells #[.slice A ns.length c] 24) = W0 := ⟨_, rfl⟩
  have b1 : Boxed W0 w.heap.size 24 (.slice A ns.length c) := by rw [← hW0]; exact Boxed.new _ _ _
  have hB0 : Below w.heap.size w W0 := by rw [← hW0]; exact (Below.refl _ w).alloc (Nat.le_refl _) _
  have hN0 : Nodes W0 W0.heap.size A ns := Nodes.lt hN hB0
  have l1 := extB_cell b1.cell
  have g1 : inR p 0 400 = true := inR_true.2 ⟨hp0, hp4⟩
  have G1 := Lib.hid g1
  have HE : Hid (askE ns true [] = 0) := Lib.hid (by rw [← g1]; exact hz)
  clear hz g1
  go_enter Try.func48, Try.ntmps48
  go_wp2
  clear hW0
  refine wp_region_ext (by kernel_rfl) (by kernel_rfl) ?_
  repeat (go_big_quiet_step (first
    | (go_at_call 62; exact ext_same (isPence_is _ _ _ G1.out))
    | (go_at_call 60; exact ext_call (ask_is _ none _ 0 ns [] _ hn (by simp) _ (Nodes.lt hN0 (extB_below _ _)) nodes_nil _ HE.out))))
  refine wpQuiet_nil ?_
  rintro _ ⟨x1, rfl⟩
  obtain ⟨W1, hW1⟩ : ∃ W1, extB W0 x1 = W1 := ⟨_, rfl⟩
  have hb1 := extB_below W0 x1
  have m1 := l1 x1
  rw [hW1] at hb1 m1 ⊢
  clear hW1 l1
  have hb2 := hb0to hB0 hb1
  have hN1 := Nodes.lt hN0 hb1
  have HS := Lib.hid (share_good c A hg hp0 hp4 W1 hN1)
  go_wp2_with (go_at_call 84; refine HS.out.mono ?_; rintro e w1 ⟨gb, kb, rfl, h1, h2, h3, h4, h5, h6⟩)
  go_ret2
  exact ⟨_, rfl, by have := hb2.size; omega, h4, hb2.trans (h6.mono hb2.size)⟩
set_option maxRecDepth 100000 in
set_option maxHeartbeats 4000000 in
theorem getsAll_no (A : Option Addr) (c : Nat) (ns : List Node) (p : Int) (hn : ns.length ≤ 1000) (w : World) (hN : Nodes w w.heap.size A ns) (hz : penceE ns p ≠ 0) :
    Calls Try.prog 48 #[.agg #[.slice A ns.length c], .int .i64 p] w fun e w' => e = .returned (.tuple #[.slice none 0 0, .int .i64 (penceE ns p)]) ∧ Below w.heap.size w w' := by
  obtain ⟨ee, hee⟩ : ∃ ee, penceE ns p = ee := ⟨_, rfl⟩
  rw [hee] at hz ⊢
  have hz2 : (ee != 0) = true := by simpa using hz
  obtain ⟨W0, hW0⟩ : ∃ W0, w.alloc (.cells #[.slice A ns.length c] 24) = W0 := ⟨_, rfl⟩
  have b1 : Boxed W0 w.heap.size 24 (.slice A ns.length c) := by rw [← hW0]; exact Boxed.new _ _ _
  have hB0 : Below w.heap.size w W0 := by rw [← hW0]; exact (Below.refl _ w).alloc (Nat.le_refl _) _
  have hN0 : Nodes W0 W0.heap.size A ns := Nodes.lt hN hB0
  have l1 := extB_cell b1.cell
  cases g1 : inR p 0 400
  all_goals
    have G1 := Lib.hid g1
    rw [penceE, g1] at hee
    have HE := Lib.hid hee
    clear hee g1
    go_enter Try.func48, Try.ntmps48
    go_wp2
    clear hW0
    refine wp_region_ext (by kernel_rfl) (by kernel_rfl) ?_
    repeat (go_big_quiet_step (first
      | (go_at_call 62; exact ext_same (isPence_is _ _ _ G1.out))
      | (go_at_call 60; exact ext_call (ask_is _ none _ 0 ns [] _ hn (by simp) _ (Nodes.lt hN0 (extB_below _ _)) nodes_nil _ HE.out))))
    refine wpQuiet_nil ?_
    rintro _ ⟨x1, rfl⟩
    have hb1 := hb0to hB0 (extB_below W0 x1)
    go_wp2
    go_ret2
    exact ⟨rfl, hb1⟩

set_option maxRecDepth 100000 in
set_option maxHeartbeats 4000000 in
theorem keepsAll_ok (A : Option Addr) (c : Nat) (ns : List Node) (p : Int) (hn : ns.length ≤ 1000) (w : World) (hN : Nodes w w.heap.size A ns) (hz : penceE ns p = 0) :
    Calls Try.prog 50 #[.agg #[.slice A ns.length c], .int .i64 p] w fun e w' => ∃ b, e = .returned (.tuple #[.slice (some ⟨b, 0, none⟩) ns.length ns.length, .int .i64 0]) ∧ w.heap.size ≤ b ∧ Row w' b (keptsS ns p) ∧ Below w.heap.size w w' := by
  obtain ⟨hg, hp0, hp4⟩ := penceE_zero hz
  obtain ⟨W0, hW0⟩ : ∃ W0, w.alloc (.cells #[.slice A ns.length c] 24) = W0 := ⟨_, rfl⟩
  have b1 : Boxed W0 w.heap.size 24 (.slice A ns.length c) := by rw [← hW0]; exact Boxed.new _ _ _
  have hB0 : Below w.heap.size w W0 := by rw [← hW0]; exact (Below.refl _ w).alloc (Nat.le_refl _) _
  have hN0 : Nodes W0 W0.heap.size A ns := Nodes.lt hN hB0
  have l1 := extB_cell b1.cell
  have g1 : inR p 0 400 = true := inR_true.2 ⟨hp0, hp4⟩
  have G1 := Lib.hid g1
  have HE : Hid (askE ns true [] = 0) := Lib.hid (by rw [← g1]; exact hz)
  clear hz g1
  go_enter Try.func50, Try.ntmps50
  go_wp2
  clear hW0
  refine wp_region_ext (by kernel_rfl) (by kernel_rfl) ?_
  repeat (go_big_quiet_step (first
    | (go_at_call 62; exact ext_same (isPence_is _ _ _ G1.out))
    | (go_at_call 60; exact ext_call (ask_is _ none _ 0 ns [] _ hn (by simp) _ (Nodes.lt hN0 (extB_below _ _)) nodes_nil _ HE.out))))
  refine wpQuiet_nil ?_
  rintro _ ⟨x1, rfl⟩
  obtain ⟨W1, hW1⟩ : ∃ W1, extB W0 x1 = W1 := ⟨_, rfl⟩
  have hb1 := extB_below W0 x1
  have m1 := l1 x1
  rw [hW1] at hb1 m1 ⊢
  clear hW1 l1
  have hb2 := hb0to hB0 hb1
  have hN1 := Nodes.lt hN0 hb1
  have HS := Lib.hid (share_good c A hg hp0 hp4 W1 hN1)
  go_wp2_with (go_at_call 84; refine HS.out.mono ?_; rintro e w1 ⟨gb, kb, rfl, h1, h2, h3, h4, h5, h6⟩)
  go_ret2
  exact ⟨_, rfl, by have := hb2.size; omega, h5, hb2.trans (h6.mono hb2.size)⟩
set_option maxRecDepth 100000 in
set_option maxHeartbeats 4000000 in
theorem keepsAll_no (A : Option Addr) (c : Nat) (ns : List Node) (p : Int) (hn : ns.length ≤ 1000) (w : World) (hN : Nodes w w.heap.size A ns) (hz : penceE ns p ≠ 0) :
    Calls Try.prog 50 #[.agg #[.slice A ns.length c], .int .i64 p] w fun e w' => e = .returned (.tuple #[.slice none 0 0, .int .i64 (penceE ns p)]) ∧ Below w.heap.size w w' := by
  obtain ⟨ee, hee⟩ : ∃ ee, penceE ns p = ee := ⟨_, rfl⟩
  rw [hee] at hz ⊢
  have hz2 : (ee != 0) = true := by simpa using hz
  obtain ⟨W0, hW0⟩ : ∃ W0, w.alloc (.cells #[.slice A ns.length c] 24) = W0 := ⟨_, rfl⟩
  have b1 : Boxed W0 w.heap.size 24 (.slice A ns.length c) := by rw [← hW0]; exact Boxed.new _ _ _
  have hB0 : Below w.heap.size w W0 := by rw [← hW0]; exact (Below.refl _ w).alloc (Nat.le_refl _) _
  have hN0 : Nodes W0 W0.heap.size A ns := Nodes.lt hN hB0
  have l1 := extB_cell b1.cell
  cases g1 : inR p 0 400
  all_goals
    have G1 := Lib.hid g1
    rw [penceE, g1] at hee
    have HE := Lib.hid hee
    clear hee g1
    go_enter Try.func50, Try.ntmps50
    go_wp2
    clear hW0
    refine wp_region_ext (by kernel_rfl) (by kernel_rfl) ?_
    repeat (go_big_quiet_step (first
      | (go_at_call 62; exact ext_same (isPence_is _ _ _ G1.out))
      | (go_at_call 60; exact ext_call (ask_is _ none _ 0 ns [] _ hn (by simp) _ (Nodes.lt hN0 (extB_below _ _)) nodes_nil _ HE.out))))
    refine wpQuiet_nil ?_
    rintro _ ⟨x1, rfl⟩
    have hb1 := hb0to hB0 (extB_below W0 x1)
    go_wp2
    go_ret2
    exact ⟨rfl, hb1⟩
end Go.Proofs.Ytohoonbbjkefaaa
