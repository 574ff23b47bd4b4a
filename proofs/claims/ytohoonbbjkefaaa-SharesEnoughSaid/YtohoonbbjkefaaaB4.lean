import Derived.Test.YtohoonbbjkefaaaB3
namespace Go.Proofs.Ytohoonbbjkefaaa
open Go.RowKit

theorem askE_zero {ns ps : List Node} {is : Bool} (h : askE ns is ps = 0) : validB ns = true ∧ is = true ∧ ps.length ≤ 6 ∧ ps.all (payOK ns.length) = true := by
  unfold askE at h
  split at h
  · rename_i hv
    split at h
    · omega
    · split at h
      · rename_i h6 hc
        simp only [Bool.and_eq_true] at hc
        exact ⟨hv, hc.1, by omega, hc.2⟩
      · omega
  · omega
theorem isNode_is (A : Option Addr) (n c : Nat) (k : Int) (w : World) (hn : n ≤ 1000) (b : Bool) (hb : inR k 0 (n - 1) = b) : Calls Try.prog 61 #[.agg #[.slice A n c], .int .i64 k] w fun e w' => e = .returned (.bool b) ∧ Below w.heap.size w w' := by
  rw [← hb]; exact isNode_any A n c k w hn
theorem isPence_is (n : Int) (w : World) (b : Bool) (hb : inR n 0 400 = b) : Calls Try.prog 62 #[.int .i64 n] w fun e w' => e = .returned (.bool b) ∧ w = w' := by
  rw [← hb]; exact isPence_any n w
theorem ask_is (A A2 : Option Addr) (c c2 : Nat) (ns ps : List Node) (is : Bool) (hn : ns.length ≤ 1000) (hp : ps.length ≤ 1000) (w : World) (hN : Nodes w w.heap.size A ns) (hP : Nodes w w.heap.size A2 ps) (e : Int) (he : askE ns is ps = e) :
    Calls Try.prog 60 #[.agg #[.slice A ns.length c], .bool is, .slice A2 ps.length c2] w fun x w' => x = .returned (.int .i64 e) ∧ Below w.heap.size w w' := by
  rw [← he]; exact ask_any A A2 c c2 ns ps is hn hp w hN hP
/-- An error, as a word of the walk. -/
theorem err_cases (e : Int) : e = 0 ∨ (e ≠ 0 ∧ (e != 0) = true) := by
  by_cases h : e = 0
  · exact .inl h
  · exact .inr ⟨h, by simpa using h⟩
def fromS (ns : List Node) (node coins : Int) : Int × Int :=
  if askE ns (inR node 0 (ns.length - 1) && inR coins 0 400) [] = 0 then firstE (fun k => decide (coins ≤ gotS ns k node.toNat)) 401 else (0, askE ns (inR node 0 (ns.length - 1) && inR coins 0 400) [])
theorem nodes_nil {W : World} {B : Nat} : Nodes W B none [] := .inl rfl

theorem hb0to {w W0 W1 : World} (h : Below w.heap.size w W0) (h1 : Below W0.heap.size W0 W1) : Below w.heap.size w W1 := h.trans (h1.mono h.size)
set_option maxRecDepth 100000 in
set_option maxHeartbeats 4000000 in
theorem from_any (A : Option Addr) (c : Nat) (ns : List Node) (node coins : Int) (hn : ns.length ≤ 1000) (w : World) (hN : Nodes w w.heap.size A ns) :
    Calls Try.prog 19 #[.agg #[.slice A ns.length c], .int .i64 node, .int .i64 coins] w fun e w' => e = .returned (.tuple #[.int .i64 (fromS ns node coins).1, .int .i64 (fromS ns node coins).2]) ∧ Below w.heap.size w w' := by
  obtain ⟨W0, hW0⟩ : ∃ W0, ((w.alloc (.cells #[.slice A ns.length c] 24)).alloc (.cells #[.int .i64 node] 3)).alloc (.cells #[.int .i64 coins] 3) = W0 := ⟨_, rfl⟩
  have b1 : Boxed W0 w.heap.size 24 (.slice A ns.length c) := by rw [← hW0]; exact ((Boxed.new _ _ _).alloc _).alloc _
  have b2 : Boxed W0 (w.heap.size + 1) 3 (.int .i64 node) := by
    have := (Boxed.new (w.alloc (.cells #[.slice A ns.length c] 24)) 3 (.int .i64 node)).alloc (.cells #[.int .i64 coins] 3)
    rw [← hW0]; simpa only [World.size_alloc] using this
  have b3 : Boxed W0 (w.heap.size + 1 + 1) 3 (.int .i64 coins) := by
    have := Boxed.new ((w.alloc (.cells #[.slice A ns.length c] 24)).alloc (.cells #[.int .i64 node] 3)) 3 (.int .i64 coins)
    rw [← hW0]; simpa only [World.size_alloc] using this
  have hB0 : Below w.heap.size w W0 := by rw [← hW0]; exact (((Below.refl _ w).alloc (Nat.le_refl _) _).alloc (by simp) _).alloc (by simp; omega) _
  have hN0 : Nodes W0 W0.heap.size A ns := Nodes.lt hN hB0
  have l1 := extB_cell b1.cell
  have l2 := extB_cell b2.cell
  have l3 := extB_cell b3.cell
  cases g1 : inR node 0 (ns.length - 1) <;> cases g2 : inR coins 0 400
  all_goals
    have G1 := Lib.hid g1
    have G2 := Lib.hid g2
    obtain ⟨is, his⟩ : ∃ is, (inR node 0 (ns.length - 1) && inR coins 0 400) = is := ⟨_, rfl⟩
    have his' := his
    rw [g1, g2] at his'
    simp only [Bool.and_true, Bool.and_false] at his'
    obtain ⟨ee, hee⟩ : ∃ ee, askE ns is [] = ee := ⟨_, rfl⟩
    subst his'
    rcases err_cases ee with rfl | ⟨hne, hneb⟩
    · have hs : fromS ns node coins = firstE (fun k => decide (coins ≤ gotS ns k node.toNat)) 401 := if_pos (by rw [his]; exact hee)
      have HS := Lib.hid hs
      obtain ⟨z1, z2, _, _⟩ := askE_zero hee
      have HE := Lib.hid hee
      clear hs his g1 g2 hee
      first
        | (exfalso; revert z2; decide)
        | (have hg := good_of z1
           obtain ⟨m, rfl⟩ : ∃ m : Nat, node = m := ⟨node.toNat, by have := (inR_true.1 G1.out).1; omega⟩
           have hm : m < ns.length := by have := (inR_true.1 G1.out).2; omega
           clear z1 z2
           go_enter Try.func19, Try.ntmps19
           go_wp2
           clear hW0
           refine wp_region_ext (by kernel_rfl) (by kernel_rfl) ?_
           repeat (go_big_quiet_step (first
             | (go_at_call 61; exact ext_call (isNode_is _ _ _ _ _ hn _ G1.out))
             | (go_at_call 62; exact ext_same (isPence_is _ _ _ G2.out))
             | (go_at_call 60; exact ext_call (ask_is _ none _ 0 ns [] _ hn (by simp) _ (Nodes.lt hN0 (extB_below _ _)) nodes_nil _ HE.out))))
           refine wpQuiet_nil ?_
           rintro _ ⟨x1, rfl⟩
           obtain ⟨W1, hW1⟩ : ∃ W1, extB W0 x1 = W1 := ⟨_, rfl⟩
           have hb1 := extB_below W0 x1
           rw [hW1] at hb1 ⊢
           clear hW1 l1 l2 l3
           have hb2 := hb0to hB0 hb1
           have HF := Lib.hid (first3_any 64 w.heap.size (w.heap.size + 1) (w.heap.size + 1 + 1) 401 (by omega) (fun k => decide (coins ≤ gotS ns k m)) W1 (enters_of Try.func64 (by kernel_rfl) rfl) (fun k W hk hW => from1_any w.heap.size (w.heap.size + 1) (w.heap.size + 1 + 1) c A m coins k hg hm (by omega) W (Nodes.lt hN0 (hb1.trans (hW.mono hb1.size)))
             ((hW.block _ (Nat.lt_of_lt_of_le b1.lt hb1.size)).trans ((hb1.block _ b1.lt).trans b1)) ((hW.block _ (Nat.lt_of_lt_of_le b2.lt hb1.size)).trans ((hb1.block _ b2.lt).trans b2)) ((hW.block _ (Nat.lt_of_lt_of_le b3.lt hb1.size)).trans ((hb1.block _ b3.lt).trans b3))))
           go_wp2_with (go_at_call 63; refine HF.out.mono ?_; rintro e w2 ⟨rfl, hb3⟩)
           go_ret2
           exact ⟨by rw [HS.out]; rfl, hb2.trans (hb3.mono (by have := hB0.size; have := hb1.size; omega))⟩)
    · have hs : fromS ns node coins = (0, ee) := by unfold fromS; rw [his, hee]; exact if_neg hne
      have HS := Lib.hid hs
      have HE := Lib.hid hee
      clear hs his g1 g2 hee
      go_enter Try.func19, Try.ntmps19
      go_wp2
      clear hW0
      refine wp_region_ext (by kernel_rfl) (by kernel_rfl) ?_
      repeat (go_big_quiet_step (first
        | (go_at_call 61; exact ext_call (isNode_is _ _ _ _ _ hn _ G1.out))
        | (go_at_call 62; exact ext_same (isPence_is _ _ _ G2.out))
        | (go_at_call 60; exact ext_call (ask_is _ none _ 0 ns [] _ hn (by simp) _ (Nodes.lt hN0 (extB_below _ _)) nodes_nil _ HE.out))))
      refine wpQuiet_nil ?_
      rintro _ ⟨x1, rfl⟩
      have hb1 := hb0to hB0 (extB_below W0 x1)
      go_wp2
      go_ret2
      exact ⟨by rw [HS.out]; rfl, hb1⟩
end Go.Proofs.Ytohoonbbjkefaaa
