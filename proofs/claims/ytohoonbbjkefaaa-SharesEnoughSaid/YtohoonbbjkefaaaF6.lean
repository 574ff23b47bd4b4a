import Derived.Test.YtohoonbbjkefaaaF5
namespace Go.Proofs.Ytohoonbbjkefaaa
open Go.RowKit

theorem refCheck_is (A : Option Addr) (c : Nat) (ns : List Node) (hn : ns.length ≤ 1000) (w : World) (hN : Nodes w w.heap.size A ns) (e : Int) (he : ckE ns = e) : Calls Try.prog 47 #[.agg #[.slice A ns.length c]] w fun x w' => x = .returned (.int .i64 e) ∧ Below w.heap.size w w' := by
  rw [← he]; exact refCheck_any A c ns hn w hN
set_option maxRecDepth 100000 in
set_option maxHeartbeats 1000000 in
theorem refAsk_is (A : Option Addr) (c : Nat) (ns : List Node) (is : Bool) (hn : ns.length ≤ 1000) (w : World) (hN : Nodes w w.heap.size A ns) (e : Int) (he : askE ns is [] = e) :
    Calls Try.prog 66 #[.agg #[.slice A ns.length c], .bool is] w fun x w' => x = .returned (.int .i64 e) ∧ Below w.heap.size w w' := by
  have EH := Lib.hid (Env.new c hN)
  clear hN
  cases hv : validB ns
  · have HC := Lib.hid (ckE_no hv)
    have HE := Lib.hid (show e = 100 from by rw [← he, askE, hv]; rfl)
    clear hv he
    go_enter Try.func66, Try.ntmps66
    go_wp2_with (go_at_call 47; go_must (refine (refCheck_is A c ns hn _ EH.out.hN _ HC.out).mono ?_; rintro x w1 ⟨rfl, hb1⟩))
    go_ret
    exact ⟨by rw [HE.out]; rfl, (EH.out.next hb1).hb⟩
  · have HC := Lib.hid (ckE_yes hv)
    cases is
    · have HE := Lib.hid (show e = 1 from by rw [← he, askE, hv]; rfl)
      clear hv he
      go_enter Try.func66, Try.ntmps66
      go_wp2_with (go_at_call 47; go_must (refine (refCheck_is A c ns hn _ EH.out.hN _ HC.out).mono ?_; rintro x w1 ⟨rfl, hb1⟩))
      go_ret
      exact ⟨by rw [HE.out]; rfl, (EH.out.next hb1).hb⟩
    · have HE := Lib.hid (show e = 0 from by rw [← he, askE, hv]; rfl)
      clear hv he
      go_enter Try.func66, Try.ntmps66
      go_wp2_with (go_at_call 47; go_must (refine (refCheck_is A c ns hn _ EH.out.hN _ HC.out).mono ?_; rintro x w1 ⟨rfl, hb1⟩))
      go_ret
      exact ⟨by rw [HE.out]; rfl, (EH.out.next hb1).hb⟩
theorem refIsPence_is (n : Int) (w : World) (b : Bool) (hb : inR n 0 400 = b) : Calls Try.prog 32 #[.int .i64 n] w fun e w' => e = .returned (.bool b) ∧ w = w' := by
  rw [← hb]; exact refIsPence_any n w
theorem getsOf_is (A : Option Addr) (c : Nat) (ns : List Node) (P : Int) (hg : GoodC ns) (hP0 : 0 ≤ P) (hP4 : P ≤ 400) (m : Nat) (w : World) (hm : m < ns.length) (hN : Nodes w w.heap.size A ns) :
    Calls Try.prog 67 #[.agg #[.slice A ns.length c], .int .i64 m, .int .i64 P] w fun e w' => e = .returned (.int .i64 (gotS ns P m)) ∧ Below w.heap.size w w' := getsOf_any A c ns P hg hP0 hP4 m w hm hN

set_option maxRecDepth 100000 in
set_option maxHeartbeats 4000000 in
theorem refFrom_any (A : Option Addr) (c : Nat) (ns : List Node) (node coins : Int) (hn : ns.length ≤ 1000) (w : World) (hN : Nodes w w.heap.size A ns) :
    Calls Try.prog 20 #[.agg #[.slice A ns.length c], .int .i64 node, .int .i64 coins] w fun e w' => e = .returned (.tuple #[.int .i64 (fromS ns node coins).1, .int .i64 (fromS ns node coins).2]) ∧ Below w.heap.size w w' := by
  obtain ⟨W0, hW0⟩ : ∃ W0, w.alloc (.cells #[.slice A ns.length c] 24) = W0 := ⟨_, rfl⟩
  have E0 : Env w A c ns W0 := by rw [← hW0]; exact Env.new c hN
  have EH := Lib.hid E0
  have l1 := extB_cell E0.bC.cell
  clear E0 hN
  cases g1 : inR node 0 (ns.length - 1) <;> cases g2 : inR coins 0 400
  all_goals
    have G1 := Lib.hid g1
    have G2 := Lib.hid g2
    obtain ⟨is, his⟩ : ∃ is, (inR node 0 (ns.length - 1) && inR coins 0 400) = is := ⟨_, rfl⟩
    have his' := his
    rw [g1, g2] at his'
    simp only [Bool.and_true, Bool.and_false] at his'
    obtain ⟨ee, hee⟩ : ∃ ee, askE ns is [] = ee := ⟨_, rfl⟩
    subst his'
    rcases err_cases ee with rfl | ⟨hne, hneb⟩
    · have hs : fromS ns node coins = firstE (fun k => decide (coins ≤ gotS ns k node.toNat)) 401 := if_pos (by rw [his]; exact hee)
      have HS := Lib.hid hs
      obtain ⟨z1, z2, _, _⟩ := askE_zero hee
      have HE := Lib.hid hee
      clear hs his g1 g2 hee
      first
        | (exfalso; revert z2; decide)
        | (have hg := good_of z1
           obtain ⟨m, rfl⟩ : ∃ m : Nat, node = m := ⟨node.toNat, by have := (inR_true.1 G1.out).1; omega⟩
           have hm : m < ns.length := by have := (inR_true.1 G1.out).2; omega
           clear z1 z2
           go_enter Try.func20, Try.ntmps20
           go_wp2
           clear hW0
           refine wp_region_ext (by kernel_rfl) (by kernel_rfl) ?_
           repeat (go_big_quiet_step (first
             | (go_at_call 27; exact ext_call (refIsNode_is _ _ _ _ _ hn _ G1.out))
             | (go_at_call 32; exact ext_same (refIsPence_is _ _ _ G2.out))
             | (go_at_call 66; exact ext_call (refAsk_is _ _ ns _ hn _ (Nodes.lt EH.out.hN (extB_below _ _)) _ HE.out))))
           refine wpQuiet_nil ?_
           rintro _ ⟨x1, rfl⟩
           obtain ⟨W1, hW1⟩ : ∃ W1, extB W0 x1 = W1 := ⟨_, rfl⟩
           have E1 := Lib.hid (EH.out.next (extB_below W0 x1))
           rw [hW1] at E1 ⊢
           clear hW1 l1
           go_wp2
           go_loopw [9] (fun i wr => ∃ k : Nat, k ≤ 401 ∧ i = .int .i64 k ∧ Hid (∀ j, j < k → decide (coins ≤ gotS ns j m) = false) ∧ Hid (Env w A c ns wr)) (fun i _ => 401 - (intOf i).toNat)
           case atStart => exact ⟨0, by omega, rfl, Lib.hid (fun j hj => by omega), E1⟩
           case round =>
             obtain ⟨k, hk, rfl, HK, HE1⟩ := hrel
             have q0 := HE1.out.bC.cell
             by_cases hlt : k < 401
             · have hc := getsOf_is A c ns k hg (by omega) (by omega) m wr hm HE1.out.hN
               have HC := Lib.hid hc
               cases hp : decide (coins ≤ gotS ns k m)
               · have HP := Lib.hid hp
                 clear hc
                 go_wp2_with (go_at_call 67; go_must (refine HC.out.mono ?_; rintro e w2 ⟨rfl, hb2⟩))
                 go_roundw
                 case rel => exact ⟨k + 1, by omega, by go_num, Lib.hid (fun j hj => by
                   by_cases e : j = k
                   · rw [e]; exact HP.out
                   · exact HK.out j (by omega)), Lib.hid (HE1.out.next hb2)⟩
                 case measure => simp [intOf]; omega
               · have HP := Lib.hid hp
                 clear hc
                 go_wp2_with (go_at_call 67; go_must (refine HC.out.mono ?_; rintro e w2 ⟨rfl, hb2⟩))
                 go_ret2
                 exact ⟨by rw [HS.out]; show _ = Ending.returned (.tuple #[.int .i64 (firstE (fun k => decide (coins ≤ gotS ns k m)) 401).1, .int .i64 (firstE (fun k => decide (coins ≤ gotS ns k m)) 401).2]); rw [firstE_hit hlt HK.out HP.out]; rfl, (HE1.out.next hb2).hb⟩
             · obtain rfl : k = 401 := by omega
               go_wp2
               go_ret2
               exact ⟨by rw [HS.out]; show _ = Ending.returned (.tuple #[.int .i64 (firstE (fun k => decide (coins ≤ gotS ns k m)) 401).1, .int .i64 (firstE (fun k => decide (coins ≤ gotS ns k m)) 401).2]); rw [firstE_none HK.out]; rfl, HE1.out.hb⟩)
    · have hs : fromS ns node coins = (0, ee) := by unfold fromS; rw [his, hee]; exact if_neg hne
      have HS := Lib.hid hs
      have HE := Lib.hid hee
      clear hs his g1 g2 hee
      go_enter Try.func20, Try.ntmps20
      go_wp2
      clear hW0
      refine wp_region_ext (by kernel_rfl) (by kernel_rfl) ?_
      repeat (go_big_quiet_step (first
        | (go_at_call 27; exact ext_call (refIsNode_is _ _ _ _ _ hn _ G1.out))
        | (go_at_call 32; exact ext_same (refIsPence_is _ _ _ G2.out))
        | (go_at_call 66; exact ext_call (refAsk_is _ _ ns _ hn _ (Nodes.lt EH.out.hN (extB_below _ _)) _ HE.out))))
      refine wpQuiet_nil ?_
      rintro _ ⟨x1, rfl⟩
      have hb1 := (EH.out.next (extB_below W0 x1)).hb
      go_wp2
      go_ret2
      exact ⟨by rw [HS.out]; rfl, hb1⟩

set_option maxRecDepth 100000 in
set_option maxHeartbeats 4000000 in
theorem refFalls_any (A : Option Addr) (c : Nat) (ns : List Node) (node : Int) (hn : ns.length ≤ 1000) (w : World) (hN : Nodes w w.heap.size A ns) :
    Calls Try.prog 22 #[.agg #[.slice A ns.length c], .int .i64 node] w fun e w' => e = .returned (.tuple #[.int .i64 (fallsS ns node).1, .int .i64 (fallsS ns node).2]) ∧ Below w.heap.size w w' := by
  obtain ⟨W0, hW0⟩ : ∃ W0, w.alloc (.cells #[.slice A ns.length c] 24) = W0 := ⟨_, rfl⟩
  have E0 : Env w A c ns W0 := by rw [← hW0]; exact Env.new c hN
  have EH := Lib.hid E0
  have l1 := extB_cell E0.bC.cell
  clear E0 hN
  cases g1 : inR node 0 (ns.length - 1)
  all_goals
    have G1 := Lib.hid g1
    obtain ⟨ee, hee⟩ : ∃ ee, askE ns (inR node 0 (ns.length - 1)) [] = ee := ⟨_, rfl⟩
    have hef := hee
    rw [g1] at hee
    rcases err_cases ee with rfl | ⟨hne, hneb⟩
    · have hs : fallsS ns node = firstE (fun k => decide (gotS ns (k + 1) node.toNat < gotS ns k node.toNat)) 400 := if_pos hef
      have HS := Lib.hid hs
      obtain ⟨z1, z2, _, _⟩ := askE_zero hee
      have HE := Lib.hid hee
      clear hs hef g1 hee
      first
        | (exfalso; revert z2; decide)
        | (have hg := good_of z1
           obtain ⟨m, rfl⟩ : ∃ m : Nat, node = m := ⟨node.toNat, by have := (inR_true.1 G1.out).1; omega⟩
           have hm : m < ns.length := by have := (inR_true.1 G1.out).2; omega
           clear z1 z2
           go_enter Try.func22, Try.ntmps22
           go_wp2
           clear hW0
           refine wp_region_ext (by kernel_rfl) (by kernel_rfl) ?_
           repeat (go_big_quiet_step (first
             | (go_at_call 27; exact ext_call (refIsNode_is _ _ _ _ _ hn _ G1.out))
             | (go_at_call 66; exact ext_call (refAsk_is _ _ ns _ hn _ (Nodes.lt EH.out.hN (extB_below _ _)) _ HE.out))))
           refine wpQuiet_nil ?_
           rintro _ ⟨x1, rfl⟩
           obtain ⟨W1, hW1⟩ : ∃ W1, extB W0 x1 = W1 := ⟨_, rfl⟩
           have E1 := Lib.hid (EH.out.next (extB_below W0 x1))
           rw [hW1] at E1 ⊢
           clear hW1 l1
           go_wp2
           go_loopw [7] (fun i wr => ∃ k : Nat, k ≤ 400 ∧ i = .int .i64 k ∧ Hid (∀ j : Nat, j < k → decide (gotS ns (j + 1) m < gotS ns j m) = false) ∧ Hid (Env w A c ns wr)) (fun i _ => 400 - (intOf i).toNat)
           case atStart => exact ⟨0, by omega, rfl, Lib.hid (fun j hj => by omega), E1⟩
           case round =>
             obtain ⟨k, hk, rfl, HK, HE1⟩ := hrel
             have q0 := extB_cell HE1.out.bC.cell
             by_cases hlt : k < 400
             · cases hp : decide (gotS ns (k + 1) m < gotS ns k m)
               · have HP := Lib.hid hp
                 go_wp2
                 refine wp_region_ext (by kernel_rfl) (by kernel_rfl) ?_
                 repeat (go_big_quiet_step ((go_at_call 67; exact ext_call (getsOf_is A c ns _ hg (by omega) (by omega) m _ hm (Nodes.lt HE1.out.hN (extB_below _ _))))))
                 refine wpQuiet_nil ?_
                 rintro _ ⟨x2, rfl⟩
                 have HE2 := Lib.hid (HE1.out.next (extB_below wr x2))
                 go_wp2
                 go_roundw
                 case rel => exact ⟨k + 1, by omega, by go_num, Lib.hid (fun j hj => by
                   by_cases e : j = k
                   · rw [e]; exact HP.out
                   · exact HK.out j (by omega)), HE2⟩
                 case measure => simp [intOf]; omega
               · have HP := Lib.hid hp
                 go_wp2
                 refine wp_region_ext (by kernel_rfl) (by kernel_rfl) ?_
                 repeat (go_big_quiet_step ((go_at_call 67; exact ext_call (getsOf_is A c ns _ hg (by omega) (by omega) m _ hm (Nodes.lt HE1.out.hN (extB_below _ _))))))
                 refine wpQuiet_nil ?_
                 rintro _ ⟨x2, rfl⟩
                 have HE2 := Lib.hid (HE1.out.next (extB_below wr x2))
                 go_wp2
                 go_ret2
                 exact ⟨by rw [HS.out]; show _ = Ending.returned (.tuple #[.int .i64 (firstE (fun k => decide (gotS ns (k + 1) m < gotS ns k m)) 400).1, .int .i64 (firstE (fun k => decide (gotS ns (k + 1) m < gotS ns k m)) 400).2]); rw [firstE_hit hlt HK.out HP.out]; rfl, HE2.out.hb⟩
             · obtain rfl : k = 400 := by omega
               go_wp2
               go_ret2
               exact ⟨by rw [HS.out]; show _ = Ending.returned (.tuple #[.int .i64 (firstE (fun k => decide (gotS ns (k + 1) m < gotS ns k m)) 400).1, .int .i64 (firstE (fun k => decide (gotS ns (k + 1) m < gotS ns k m)) 400).2]); rw [firstE_none HK.out]; rfl, HE1.out.hb⟩)
    · have hs : fallsS ns node = (0, ee) := by unfold fallsS; rw [hef]; exact if_neg hne
      have HS := Lib.hid hs
      have HE := Lib.hid hee
      clear hs hef g1 hee
      go_enter Try.func22, Try.ntmps22
      go_wp2
      clear hW0
      refine wp_region_ext (by kernel_rfl) (by kernel_rfl) ?_
      repeat (go_big_quiet_step (first
        | (go_at_call 27; exact ext_call (refIsNode_is _ _ _ _ _ hn _ G1.out))
        | (go_at_call 66; exact ext_call (refAsk_is _ _ ns _ hn _ (Nodes.lt EH.out.hN (extB_below _ _)) _ HE.out))))
      refine wpQuiet_nil ?_
      rintro _ ⟨x1, rfl⟩
      have hb1 := (EH.out.next (extB_below W0 x1)).hb
      go_wp2
      go_ret2
      exact ⟨by rw [HS.out]; rfl, hb1⟩
end Go.Proofs.Ytohoonbbjkefaaa
