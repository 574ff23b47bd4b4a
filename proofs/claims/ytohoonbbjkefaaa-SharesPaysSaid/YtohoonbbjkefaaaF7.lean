import Derived.Test.YtohoonbbjkefaaaF5
namespace Go.Proofs.Ytohoonbbjkefaaa
open Go.RowKit

theorem refCheck_is (A : Option Addr) (c : Nat) (ns : List Node) (hn : ns.length ≤ 1000) (w : World) (hN : Nodes w w.heap.size A ns) (e : Int) (he : ckE ns = e) : Calls Try.prog 47 #[.agg #[.slice A ns.length c]] w fun x w' => x = .returned (.int .i64 e) ∧ Below w.heap.size w w' := by
  rw [← he]; exact refCheck_any A c ns hn w hN
set_option maxRecDepth 100000 in
set_option maxHeartbeats 1000000 in
theorem refAsk_is (A : Option Addr) (c : Nat) (ns : List Node) (is : Bool) (hn : ns.length ≤ 1000) (w : World) (hN : Nodes w w.heap.size A ns) (e : Int) (he : askE ns is [] = e) :
    Calls Try.prog 66 #[.agg #[.slice A ns.length c], .bool is] w fun x w' => x = .returned (.int .i64 e) ∧ Below w.heap.size w w' := by
  have EH := Lib.hid (Env.new c hN)
  clear hN
  cases hv : validB ns
  · have HC := Lib.hid (ckE_no hv)
    have HE := Lib.hid (show e = 100 from by rw [← he, askE, hv]; rfl)
    clear hv he
    go_enter Try.func66, Try.ntmps66
    go_wp2_with (go_at_call 47; go_must (refine (refCheck_is A c ns hn _ EH.out.hN _ HC.out).mono ?_; rintro x w1 ⟨rfl, hb1⟩))
    go_ret
    exact ⟨by rw [HE.out]; rfl, (EH.out.next hb1).hb⟩
  · have HC := Lib.hid (ckE_yes hv)
    cases is
    · have HE := Lib.hid (show e = 1 from by rw [← he, askE, hv]; rfl)
      clear hv he
      go_enter Try.func66, Try.ntmps66
      go_wp2_with (go_at_call 47; go_must (refine (refCheck_is A c ns hn _ EH.out.hN _ HC.out).mono ?_; rintro x w1 ⟨rfl, hb1⟩))
      go_ret
      exact ⟨by rw [HE.out]; rfl, (EH.out.next hb1).hb⟩
    · have HE := Lib.hid (show e = 0 from by rw [← he, askE, hv]; rfl)
      clear hv he
      go_enter Try.func66, Try.ntmps66
      go_wp2_with (go_at_call 47; go_must (refine (refCheck_is A c ns hn _ EH.out.hN _ HC.out).mono ?_; rintro x w1 ⟨rfl, hb1⟩))
      go_ret
      exact ⟨by rw [HE.out]; rfl, (EH.out.next hb1).hb⟩
theorem refIsPence_is (n : Int) (w : World) (b : Bool) (hb : inR n 0 400 = b) : Calls Try.prog 32 #[.int .i64 n] w fun e w' => e = .returned (.bool b) ∧ w = w' := by
  rw [← hb]; exact refIsPence_any n w
theorem getsOf_is (A : Option Addr) (c : Nat) (ns : List Node) (P : Int) (hg : GoodC ns) (hP0 : 0 ≤ P) (hP4 : P ≤ 400) (m : Nat) (w : World) (hm : m < ns.length) (hN : Nodes w w.heap.size A ns) :
    Calls Try.prog 67 #[.agg #[.slice A ns.length c], .int .i64 m, .int .i64 P] w fun e w' => e = .returned (.int .i64 (gotS ns P m)) ∧ Below w.heap.size w w' := getsOf_any A c ns P hg hP0 hP4 m w hm hN

set_option maxRecDepth 100000 in
set_option maxHeartbeats 4000000 in
theorem refFrom_any (A : Option Addr) (c : Nat) (ns : List Node) (node coins : Int) (hn : ns.length ≤ 1000) (w : World) (hN : Nodes w w.heap.size A ns) :
    Calls Try.prog 20 #[.agg #[.slice A ns.length c], .int .i64 node, .int .i64 coins] w fun e w' => e = .returned (.tuple #[.int .i64 (fromS ns node coins).1, .int .i64 (fromS ns node coins).2]) ∧ Below w.heap.size w w' := by
  obtain ⟨W0, hW0⟩ : ∃ W0, w.alloc (.cells #[.slice A ns.length c] 24) = W0 := ⟨_, rfl⟩
  have E0 : Env w A c ns W0 := by rw [← hW0]; exact Env.new c hN
  have EH := Lib.hid E0
  have l1 := extB_cell E0.bC.cell
  clear E0 hN
  cases g1 : inR node 0 (ns.length - 1) <;> cases g2 : inR coins 0 400
  all_goals
    have G1 := Lib.hid g1
    have G2 := Lib.hid g2
    obtain ⟨is, his⟩ : ∃ is, (inR node 0 (ns.length - 1) && inR coins 0 400) = is := ⟨_, rfl⟩
    have his' := his
    rw [g1, g2] at his'
    simp only [Bool.and_true, Bool.and_false] at his'
    obtain ⟨ee, hee⟩ : ∃ ee, askE ns is [] = ee := ⟨_, rfl⟩
    subst his'
    rcases err_cases ee with rfl | ⟨hne, hneb⟩
    · have hs : fromS ns node coins = firstE (fun k => decide (coins ≤ gotS ns k node.toNat)) 401 := if_pos (by rw [his]; exact hee)
      have HS := Lib.hid hs
      obtain ⟨z1, z2, _, _⟩ := askE_zero hee
      have HE := Lib.hid hee
      clear hs his g1 g2 hee
      first
        | (exfalso; revert z2; decide)
        | (have hg := good_of z1
           obtain ⟨m, rfl⟩ : ∃ m : Nat, node = m := ⟨node.toNat, by have := (inR_true.1 G1.out).1; omega⟩
           have hm : m < ns.length := by have := (inR_true.1 G1.out).2; omega
           clear z1 z2
           go_enter Try.func20, Try.ntmps20
           go_wp2
           clear hW0
           refine wp_region_ext (by kernel_rfl) (by kernel_rfl) ?_
           repeat (go_big_quiet_step (first
             | (go_at_call 27; exact ext_call (refIsNode_is _ _ _ _ _ hn _ G1.out))
             | (go_at_call 32; exact ext_same (refIsPence_is _ _ _ G2.out))
             | (go_at_call 66; exact ext_call (refAsk_is _ _ ns _ hn _ (Nodes.lt EH.out.hN (extB_below _ _)) _ HE.out))))
           refine wpQuiet_nil ?_
           rintro _ ⟨x1, rfl⟩
           obtain ⟨W1, hW1⟩ : ∃ W1, extB W0 x1 = W1 := ⟨_, rfl⟩
           have E1 := Lib.hid (EH.out.next (extB_below W0 x1))
           rw [hW1] at E1 ⊢
           clear hW1 l1
           go_wp2
           go_loopw [9] (fun i wr => ∃ k : Nat, k ≤ 401 ∧ i = .int .i64 k ∧ Hid (∀ j, j < k → decide (coins ≤ gotS ns j m) = false) ∧ Hid (Env w A c ns wr)) (fun i _ => 401 - (intOf i).toNat)
           case atStart => exact ⟨0, by omega, rfl, Lib.hid (fun j hj => by omega), E1⟩
           case round =>
             obtain ⟨k, hk, rfl, HK, HE1⟩ := hrel
             have q0 := HE1.out.bC.cell
             by_cases hlt : k < 401
             · have hc := getsOf_is A c ns k hg (by omega) (by omega) m wr hm HE1.out.hN
               have HC := Lib.hid hc
               cases hp : decide (coins ≤ gotS ns k m)
               · have HP := Lib.hid hp
                 clear hc
                 go_wp2_with (go_at_call 67; go_must (refine HC.out.mono ?_; rintro e w2 ⟨rfl, hb2⟩))
                 go_roundw
                 case rel => exact ⟨k + 1, by omega, by go_num, Lib.hid (fun j hj => by
                   by_cases e : j = k
                   · rw [e]; exact HP.out
                   · exact HK.out j (by omega)), Lib.hid (HE1.out.next hb2)⟩
                 case measure => simp [intOf]; omega
               · have HP := Lib.hid hp
                 clear hc
                 go_wp2_with (go_at_call 67; go_must (refine HC.out.mono ?_; rintro e w2 ⟨rfl, hb2⟩))
                 go_ret2
                 exact ⟨by rw [HS.out]; show _ = Ending.returned (.tuple #[.int .i64 (firstE (fun k => decide (coins ≤ gotS ns k m)) 401).1, .int .i64 (firstE (fun k => decide (coins ≤ gotS ns k m)) 401).2]); rw [firstE_hit hlt HK.out HP.out]; rfl, (HE1.out.next hb2).hb⟩
             · obtain rfl : k = 401 := by omega
               go_wp2
               go_ret2
               exact ⟨by rw [HS.out]; show _ = Ending.returned (.tuple #[.int .i64 (firstE (fun k => decide (coins ≤ gotS ns k m)) 401).1, .int .i64 (firstE (fun k => decide (coins ≤ gotS ns k m)) 401).2]); rw [firstE_none HK.out]; rfl, HE1.out.hb⟩)
    · have hs : fromS ns node coins = (0, ee) := by unfold fromS; rw [his, hee]; exact if_neg hne
      have HS := Lib.hid hs
      have HE := Lib.hid hee
      clear hs his g1 g2 hee
      go_enter Try.func20, Try.ntmps20
      go_wp2
      clear hW0
      refine wp_region_ext (by kernel_rfl) (by kernel_rfl) ?_
      repeat (go_big_quiet_step (first
        | (go_at_call 27; exact ext_call (refIsNode_is _ _ _ _ _ hn _ G1.out))
        | (go_at_call 32; exact ext_same (refIsPence_is _ _ _ G2.out))
        | (go_at_call 66; exact ext_call (refAsk_is _ _ ns _ hn _ (Nodes.lt EH.out.hN (extB_below _ _)) _ HE.out))))
      refine wpQuiet_nil ?_
      rintro _ ⟨x1, rfl⟩
      have hb1 := (EH.out.next (extB_below W0 x1)).hb
      go_wp2
      go_ret2
      exact ⟨by rw [HS.out]; rfl, hb1⟩

set_option maxRecDepth 100000 in
set_option maxHeartbeats 4000000 in
theorem refFalls_any (A : Option Addr) (c : Nat) (ns : List Node) (node : Int) (hn : ns.length ≤ 1000) (w : World) (hN : Nodes w w.heap.size A ns) :
    Calls Try.prog 22 #[.agg #[.slice A ns.length c], .int .i64 node] w fun e w' => e = .returned (.tuple #[.int .i64 (fallsS ns node).1, .int .i64 (fallsS ns node).2]) ∧ Below w.heap.size w w' := by
  obtain ⟨W0, hW0⟩ : ∃ W0, w.alloc (.cells #[.slice A ns.length c] 24) = W0 := ⟨_, rfl⟩
  have E0 : Env w A c ns W0 := by rw [← hW0]; exact Env.new c hN
  have EH := Lib.hid E0
  have l1 := extB_cell E0.bC.cell
  clear E0 hN
  cases g1 : inR node 0 (ns.length - 1)
  all_goals
    have G1 := Lib.hid g1
    obtain ⟨ee, hee⟩ : ∃ ee, askE ns (inR node 0 (ns.length - 1)) [] = ee := ⟨_, rfl⟩
    have hef := hee
    rw [g1] at hee
    rcases err_cases ee with rfl | ⟨hne, hneb⟩
    · have hs : fallsS ns node = firstE (fun k => decide (gotS ns (k + 1) node.toNat < gotS ns k node.toNat)) 400 := if_pos hef
      have HS := Lib.hid hs
      obtain ⟨z1, z2, _, _⟩ := askE_zero hee
      have HE := Lib.hid hee
      clear hs hef g1 hee
      first
        | (exfalso; revert z2; decide)
        | (have hg := good_of z1
           obtain ⟨m, rfl⟩ : ∃ m : Nat, node = m := ⟨node.toNat, by have := (inR_true.1 G1.out).1; omega⟩
           have hm : m < ns.length := by have := (inR_true.1 G1.out).2; omega
           clear z1 z2
           go_enter Try.func22, Try.ntmps22
           go_wp2
           clear hW0
           refine wp_region_ext (by kernel_rfl) (by kernel_rfl) ?_
           repeat (go_big_quiet_step (first
             | (go_at_call 27; exact ext_call (refIsNode_is _ _ _ _ _ hn _ G1.out))
             | (go_at_call 66; exact ext_call (refAsk_is _ _ ns _ hn _ (Nodes.lt EH.out.hN (extB_below _ _)) _ HE.out))))
           refine wpQuiet_nil ?_
           rintro _ ⟨x1, rfl⟩
           obtain ⟨W1, hW1⟩ : ∃ W1, extB W0 x1 = W1 := ⟨_, rfl⟩
           have E1 := Lib.hid (EH.out.next (extB_below W0 x1))
           rw [hW1] at E1 ⊢
           clear hW1 l1
           go_wp2
           go_loopw [7] (fun i wr => ∃ k : Nat, k ≤ 400 ∧ i = .int .i64 k ∧ Hid (∀ j : Nat, j < k → decide (gotS ns (j + 1) m < gotS ns j m) = false) ∧ Hid (Env w A c ns wr)) (fun i _ => 400 - (intOf i).toNat)
           case atStart => exact ⟨0, by omega, rfl, Lib.hid (fun j hj => by omega), E1⟩
           case round =>
             obtain ⟨k, hk, rfl, HK, HE1⟩ := hrel
             have q0 := extB_cell HE1.out.bC.cell
             by_cases hlt : k < 400
             · cases hp : decide (gotS ns (k + 1) m < gotS ns k m)
               · have HP := Lib.hid hp
                 go_wp2
                 refine wp_region_ext (by kernel_rfl) (by kernel_rfl) ?_
                 repeat (go_big_quiet_step ((go_at_call 67; exact ext_call (getsOf_is A c ns _ hg (by omega) (by omega) m _ hm (Nodes.lt HE1.out.hN (extB_below _ _))))))
                 refine wpQuiet_nil ?_
                 rintro _ ⟨x2, rfl⟩
                 have HE2 := Lib.hid (HE1.out.next (extB_below wr x2))
                 go_wp2
                 go_roundw
                 case rel => exact ⟨k + 1, by omega, by go_num, Lib.hid (fun j hj => by
                   by_cases e : j = k
                   · rw [e]; exact HP.out
                   · exact HK.out j (by omega)), HE2⟩
                 case measure => simp [intOf]; omega
               · have HP := Lib.hid hp
                 go_wp2
                 refine wp_region_ext (by kernel_rfl) (by kernel_rfl) ?_
                 repeat (go_big_quiet_step ((go_at_call 67; exact ext_call (getsOf_is A c ns _ hg (by omega) (by omega) m _ hm (Nodes.lt HE1.out.hN (extB_below _ _))))))
                 refine wpQuiet_nil ?_
                 rintro _ ⟨x2, rfl⟩
                 have HE2 := Lib.hid (HE1.out.next (extB_below wr x2))
                 go_wp2
                 go_ret2
                 exact ⟨by rw [HS.out]; show _ = Ending.returned (.tuple #[.int .i64 (firstE (fun k => decide (gotS ns (k + 1) m < gotS ns k m)) 400).1, .int .i64 (firstE (fun k => decide (gotS ns (k + 1) m < gotS ns k m)) 400).2]); rw [firstE_hit hlt HK.out HP.out]; rfl, HE2.out.hb⟩
             · obtain rfl : k = 400 := by omega
               go_wp2
               go_ret2
               exact ⟨by rw [HS.out]; show _ = Ending.returned (.tuple #[.int .i64 (firstE (fun k => decide (gotS ns (k + 1) m < gotS ns k m)) 400).1, .int .i64 (firstE (fun k => decide (gotS ns (k + 1) m < gotS ns k m)) 400).2]); rw [firstE_none HK.out]; rfl, HE1.out.hb⟩)
    · have hs : fallsS ns node = (0, ee) := by unfold fallsS; rw [hef]; exact if_neg hne
      have HS := Lib.hid hs
      have HE := Lib.hid hee
      clear hs hef g1 hee
      go_enter Try.func22, Try.ntmps22
      go_wp2
      clear hW0
      refine wp_region_ext (by kernel_rfl) (by kernel_rfl) ?_
      repeat (go_big_quiet_step (first
        | (go_at_call 27; exact ext_call (refIsNode_is _ _ _ _ _ hn _ G1.out))
        | (go_at_call 66; exact ext_call (refAsk_is _ _ ns _ hn _ (Nodes.lt EH.out.hN (extB_below _ _)) _ HE.out))))
      refine wpQuiet_nil ?_
      rintro _ ⟨x1, rfl⟩
      have hb1 := (EH.out.next (extB_below W0 x1)).hb
      go_wp2
      go_ret2
      exact ⟨by rw [HS.out]; rfl, hb1⟩
end Go.Proofs.Ytohoonbbjkefaaa
namespace Go.Proofs.Ytohoonbbjkefaaa
open Go.RowKit

/-! The part of a node, as the specification reckons it. -/
def exOf (ns : List Node) : Nat → Nat → Int × Int
  | 0, _ => (1, 1)
  | f + 1, n => if n = 0 then (1, 1) else if wsum ns (upN ns n) = 0 then (0, 1) else ((exOf ns f (upN ns n)).1 * (nodeAt ns n).w, (exOf ns f (upN ns n)).2 * wsum ns (upN ns n))
def exN (ns : List Node) (n : Nat) : Int × Int := exOf ns n n
theorem exOf_more {ns : List Node} (h : GoodC ns) : ∀ (n f : Nat), n < ns.length → n ≤ f → exOf ns f n = exN ns n := by
  intro n
  induction n using Nat.strongRecOn with
  | _ n ih =>
    intro f hn hf
    cases n with
    | zero => cases f <;> simp [exOf, exN]
    | succ n =>
      obtain ⟨f, rfl⟩ : ∃ g, f = g + 1 := ⟨f - 1, by omega⟩
      have hu : upN ns (n + 1) < n + 1 := (h.upN hn (by omega)).1
      rw [exN]
      simp only [exOf, if_neg (Nat.succ_ne_zero n)]
      rw [ih _ hu f (by omega) (by omega), ih _ hu n (by omega) (by omega)]
theorem exN_up {ns : List Node} (h : GoodC ns) {n : Nat} (hn : n < ns.length) (h0 : 0 < n) : exN ns n = if wsum ns (upN ns n) = 0 then (0, 1) else ((exN ns (upN ns n)).1 * (nodeAt ns n).w, (exN ns (upN ns n)).2 * wsum ns (upN ns n)) := by
  obtain ⟨m, rfl⟩ : ∃ m, n = m + 1 := ⟨n - 1, by omega⟩
  have hu : upN ns (m + 1) < m + 1 := (h.upN hn (by omega)).1
  rw [exN]
  simp only [exOf, if_neg (Nat.succ_ne_zero m)]
  rw [exOf_more h _ m (by omega) (by omega)]
theorem exN_bd {ns : List Node} (h : GoodC ns) : ∀ n, n < ns.length → ExB (7 - n) (exN ns n).1 (exN ns n).2 := by
  intro n
  induction n using Nat.strongRecOn with
  | _ n ih =>
    intro hn
    have h8 := h.l8
    by_cases h0 : n = 0
    · subst h0; exact ExB.start
    · have hu : upN ns n < n := (h.upN hn (by omega)).1
      rw [exN_up h hn (by omega)]
      split
      · exact ⟨by decide, by have := (ExB.start (k := 7 - n)).2.1; simp only; omega, by decide, (ExB.start (k := 7 - n)).2.2.2⟩
      · rename_i hs
        have hw := h.ws n _ (GoodC.at_ hn)
        have hb := wsum_bd h (upN ns n)
        exact (ih _ hu (by omega)).step (by omega) (by omega) hw (by omega)
theorem ex_rel {ns : List Node} (h : GoodC ns) : ∀ n, n < ns.length → ∀ a b : Int, exGo ns n n a b = some (a * (exN ns n).1, b * (exN ns n).2) ∨ (exGo ns n n a b = none ∧ (exN ns n).1 = 0) := by
  intro n
  induction n using Nat.strongRecOn with
  | _ n ih =>
    intro hn a b
    by_cases h0 : n = 0
    · subst h0; exact .inl (by rw [exGo_zero]; simp [exN, exOf])
    · have hu : upN ns n < n := (h.upN hn (by omega)).1
      rw [exN_up h hn (by omega)]
      by_cases hs : wsum ns (upN ns n) = 0
      · rw [exGo_none (by omega) a b hs, if_pos hs]
        exact .inr ⟨rfl, rfl⟩
      · rw [exGo_up h hn (by omega) a b hs, if_neg hs]
        rcases ih _ hu (by omega) (a * (nodeAt ns n).w) (b * wsum ns (upN ns n)) with h1 | ⟨h1, h2⟩
        · refine .inl ?_
          rw [h1]
          simp only [Option.some.injEq, Prod.mk.injEq]
          exact ⟨by rw [Int.mul_assoc, Int.mul_comm (nodeAt ns n).w], by rw [Int.mul_assoc, Int.mul_comm (wsum ns (upN ns n))]⟩
        · refine .inr ⟨h1, ?_⟩
          simp only
          rw [h2, Int.zero_mul]
theorem red_exN {ns : List Node} (h : GoodC ns) {n : Nat} (hn : n < ns.length) : redS (exN ns n) = exactV ns n := by
  have hb := (exN_bd h n hn).top
  rcases ex_rel h n hn 1 1 with h1 | ⟨h1, h2⟩
  · unfold exactV
    rw [h1]
    simp
  · unfold exactV
    rw [h1]
    simp only
    unfold redS
    rw [h2]
    have e : (Int.gcd 0 (exN ns n).2 : Int) = (exN ns n).2 := by rw [Int.gcd_zero_left]; omega
    rw [e, Int.zero_ediv, Int.ediv_self (by omega)]

set_option maxRecDepth 100000 in
set_option maxHeartbeats 4000000 in
theorem reduced_any (num den : Int) (h0 : 0 ≤ num) (h1 : num ≤ 3938980639167) (h2 : 1 ≤ den) (h3 : den ≤ 3938980639167) (w : World) :
    Calls Try.prog 30 #[.int .i64 num, .int .i64 den] w fun e w' => e = .returned (.agg #[.int .i64 (redS (num, den)).1, .int .i64 (redS (num, den)).2]) ∧ Below w.heap.size w w' := by
  obtain ⟨W0, hW0⟩ : ∃ W0, w.alloc (.cells #[.int .i64 0, .int .i64 0] 33) = W0 := ⟨_, rfl⟩
  have b2 : Two W0 w.heap.size 0 0 := by rw [← hW0]; exact World.alloc_heap_new _ _
  have hB0 : Below w.heap.size w W0 := by rw [← hW0]; exact (Below.refl _ w).alloc (Nat.le_refl _) _
  have hmx : ¬ num < -num := by omega
  have hmx2 : -num ≤ num := by omega
  have hgp := gcd_pos (num := num) h2
  go_enter Try.func30, Try.ntmps30
  go_wp2
  clear hW0
  go_loopw [5, 6] (fun x y wr => ∃ a b : Int, x = .int .i64 a ∧ y = .int .i64 b ∧ 0 ≤ a ∧ a ≤ 3938980639167 ∧ 0 ≤ b ∧ b ≤ 3938980639167 ∧ Hid (Int.gcd a b = Int.gcd num den) ∧ Below W0.heap.size W0 wr)
    (fun _ y _ => (intOf y).toNat)
  case atStart => exact ⟨num, den, rfl, rfl, by omega, by omega, by omega, by omega, Lib.hid rfl, Below.refl _ _⟩
  case round =>
    obtain ⟨a, b, rfl, rfl, ha, ha2, hb, hbb, HG, hb4⟩ := hrel
    by_cases hb0 : 0 < b
    · have hbe : (b == 0) = false := by rw [beq_eq_false_iff_ne]; omega
      have hst := gcd_step (a := a) hb0
      have HG2 := Lib.hid (hst.1.trans HG.out)
      have h5 := hst.2.1
      have h6 := hst.2.2
      clear hst HG
      go_wp2
      refine wp_region_ext (by kernel_rfl) (by kernel_rfl) ?_
      repeat (go_big_quiet_step (fail))
      refine wpQuiet_nil ?_
      rintro _ ⟨x2, rfl⟩
      have hb5 := hb4.trans ((extB_below wr x2).mono hb4.size)
      go_wp2
      go_roundw
      case rel => exact ⟨b, _, rfl, rfl, by omega, by omega, h5, by omega, HG2, hb5⟩
      case measure => simp [intOf]; omega
    · obtain rfl : b = 0 := by omega
      have ea : (Int.gcd num den : Int) = a := by rw [← HG.out]; exact gcd_end ha
      have hapos : 0 < a := by omega
      have ha0 : (a == 0) = false := by rw [beq_eq_false_iff_ne]; omega
      have t1 := b2.below hb4 b2.lt
      have q1 := t1.c0
      have q2 := t1.c1
      have q3 := t1.fr
      have q4 := fun v => (t1.set0 v).c1
      have q5 := fun v => (t1.set0 v).fr
      have Q := Lib.hid t1.end_
      have hbf := hb0to hB0 hb4
      have EA := Lib.hid ea
      clear t1 HG ea
      go_wp2
      go_region
      go_wp2
      have z1 := (Q.out (num / a) (den / a)).c0
      have z2 := (Q.out (num / a) (den / a)).c1
      refine bodyPost_ret (v := .agg #[.int .i64 (num / a), .int .i64 (den / a)]) (by simp [results, Try.results30, go_sem, z1, z2]) rfl ⟨by rw [redS]; simp only; rw [EA.out], ?_⟩
      exact ((hbf.setCell (p := ⟨w.heap.size, 0, none⟩) (Nat.le_refl _) _).setCell (p := ⟨w.heap.size, 1, none⟩) (Nat.le_refl _) _).drew

set_option maxRecDepth 100000 in
set_option maxHeartbeats 4000000 in
theorem exactOf_any (A : Option Addr) (c : Nat) (ns : List Node) (hg : GoodC ns) : ∀ (m : Nat) (w : World), m < ns.length → Nodes w w.heap.size A ns →
    Calls Try.prog 70 #[.agg #[.slice A ns.length c], .int .i64 m] w fun e w' => e = .returned (.tuple #[.int .i64 (exN ns m).1, .int .i64 (exN ns m).2]) ∧ Below w.heap.size w w' := by
  intro m
  induction m using Nat.strongRecOn with
  | _ m ih =>
    intro w hm hN
    have EH := Lib.hid (Env.new c hN)
    have hl8 := hg.l8
    clear hN
    by_cases h0 : m = 0
    · subst h0
      have HQ := Lib.hid (show exN ns 0 = (1, 1) from rfl)
      clear ih
      go_enter Try.func70, Try.ntmps70
      go_wp2
      go_ret2
      exact ⟨by rw [HQ.out]; rfl, EH.out.hb⟩
    · have h1 : 0 < m := by omega
      have hmb : ((m : Int) == 0) = false := by rw [beq_eq_false_iff_ne]; omega
      have hu := hg.upN hm h1
      have hup : (upN ns m : Int) = (nodeAt ns m).u := hu.2
      have hum : upN ns m < m := hu.1
      have HU := Lib.hid (exN_up hg hm h1)
      have IH := Lib.hid (fun (W : World) (hW : Nodes W W.heap.size A ns) => (show Calls Try.prog 70 #[.agg #[.slice A ns.length c], .int .i64 (nodeAt ns m).u] W fun e w' => e = .returned (.tuple #[.int .i64 (exN ns (upN ns m)).1, .int .i64 (exN ns (upN ns m)).2]) ∧ Below W.heap.size W w' from by rw [← hup]; exact ih (upN ns m) hum W (by omega) hW))
      obtain ⟨b, off, hA, _, d1, _, _⟩ := EH.out.hN.at_ (GoodC.at_ hm)
      subst hA
      have q0 := EH.out.bC.cell
      have hw := hg.ws m _ (GoodC.at_ hm)
      have hbd := (exN_bd hg (upN ns m) (by omega))
      have hsb := wsum_bd hg (upN ns m)
      have SU := Lib.hid (fun (W : World) (hW : Nodes W W.heap.size (some ⟨b, off, none⟩) ns) (s : Int) (hs : wsum ns (upN ns m) = s) => (show Calls Try.prog 31 #[.agg #[.slice (some ⟨b, off, none⟩) ns.length c], .int .i64 (nodeAt ns m).u] W fun e w' => e = .returned (.int .i64 s) ∧ Below W.heap.size W w' from by rw [← hup, ← hs]; exact refSum_any _ c ns (upN ns m) hg W hW))
      by_cases hz : wsum ns (upN ns m) = 0
      · have HZ := Lib.hid hz
        have HQ := Lib.hid (show exN ns m = (0, 1) from by rw [HU.out, if_pos hz])
        clear h0 hu ih hz
        go_enter Try.func70, Try.ntmps70
        go_wp2_with (go_at_call 31; go_must (refine (SU.out _ EH.out.hN 0 HZ.out).mono ?_; rintro e w1 ⟨rfl, hb1⟩))
        go_ret2
        exact ⟨by rw [HQ.out]; rfl, (EH.out.next hb1).hb⟩
      · obtain ⟨s, hsS⟩ : ∃ s, wsum ns (upN ns m) = s := ⟨_, rfl⟩
        have hzb : (s == 0) = false := by rw [beq_eq_false_iff_ne]; omega
        have hst := (hbd.step (j := 7 - m) (w := (nodeAt ns m).w) (s := s) (by omega) (by omega) hw (by omega)).top
        have hbt := hbd.top
        have HSS := Lib.hid hsS
        have HQ := Lib.hid (show exN ns m = ((exN ns (upN ns m)).1 * (nodeAt ns m).w, (exN ns (upN ns m)).2 * s) from by rw [HU.out, if_neg hz, hsS])
        have hs2 : 1 ≤ s ∧ s ≤ 63 := by omega
        generalize (exN ns (upN ns m)).1 = xn at *
        generalize (exN ns (upN ns m)).2 = xd at *
        clear h0 hu ih hz hsS hbd hsb
        go_enter Try.func70, Try.ntmps70
        go_wp2_with (first
          | (go_at_call 70; go_must (refine (IH.out w1 E1.hN).mono ?_; rintro e w2 ⟨rfl, hb2⟩; have E2 := E1.next hb2))
          | (go_at_call 31; go_must (refine (SU.out _ EH.out.hN s HSS.out).mono ?_; rintro e w1 ⟨rfl, hb1⟩; have E1 := EH.out.next hb1; have r0 := E1.bC.cell)))
        have E2H := Lib.hid E2
        have x0 := extB_cell E2.bC.cell
        obtain ⟨_, _, ee, _, _, d2, _⟩ := E2.hN.at_ (GoodC.at_ hm)
        cases ee
        have x1c := extB_cell d2
        clear E1 E2 d2
        refine wp_region_ext (by kernel_rfl) (by kernel_rfl) ?_
        repeat (go_big_quiet_step ((go_at_call 31; exact ext_call (SU.out _ (Nodes.lt E2H.out.hN (extB_below _ _)) s HSS.out))))
        refine wpQuiet_nil ?_
        rintro _ ⟨x2, rfl⟩
        have hbE := (E2H.out.next (extB_below w2 x2)).hb
        go_wp2
        go_ret2
        exact ⟨by rw [HQ.out]; rfl, hbE⟩
end Go.Proofs.Ytohoonbbjkefaaa
