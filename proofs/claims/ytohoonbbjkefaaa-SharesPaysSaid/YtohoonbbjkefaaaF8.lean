import Derived.Test.YtohoonbbjkefaaaF7
import Derived.Test.YtohoonbbjkefaaaF3
namespace Go.Proofs.Ytohoonbbjkefaaa
open Go.RowKit

set_option maxRecDepth 100000 in
set_option maxHeartbeats 4000000 in
theorem refExact_any (A : Option Addr) (c : Nat) (ns : List Node) (node : Int) (hn : ns.length ≤ 1000) (w : World) (hN : Nodes w w.heap.size A ns) :
    Calls Try.prog 24 #[.agg #[.slice A ns.length c], .int .i64 node] w fun e w' => e = .returned (.tuple #[.agg #[.int .i64 (exactS ns node).1.1, .int .i64 (exactS ns node).1.2], .int .i64 (exactS ns node).2]) ∧ Below w.heap.size w w' := by
  obtain ⟨W0, hW0⟩ : ∃ W0, (w.alloc (.cells #[.slice A ns.length c] 24)).alloc (.cells #[.int .i64 0, .int .i64 0] 33) = W0 := ⟨_, rfl⟩
  have E0 : Env w A c ns W0 := by rw [← hW0]; exact (Env.new c hN).alloc _
  have b2 : Two W0 (w.heap.size + 1) 0 0 := by
    have := World.alloc_heap_new (w.alloc (.cells #[.slice A ns.length c] 24)) (.cells #[.int .i64 0, .int .i64 0] 33)
    rw [← hW0]; unfold Two; simpa only [World.size_alloc] using this
  have EH := Lib.hid E0
  have l1 := extB_cell E0.bC.cell
  clear E0 hN
  cases g1 : inR node 0 (ns.length - 1)
  all_goals
    have G1 := Lib.hid g1
    obtain ⟨ee, hee⟩ : ∃ ee, askE ns (inR node 0 (ns.length - 1)) [] = ee := ⟨_, rfl⟩
    have hef := hee
    rw [g1] at hee
    rcases err_cases ee with rfl | ⟨hne, hneb⟩
    · have hs : exactS ns node = (exactV ns node.toNat, 0) := if_pos hef
      have HS := Lib.hid hs
      obtain ⟨z1, z2, _, _⟩ := askE_zero hee
      have HE := Lib.hid hee
      clear hs hef g1 hee
      first
        | (exfalso; revert z2; decide)
        | (have hg := good_of z1
           obtain ⟨m, rfl⟩ : ∃ m : Nat, node = m := ⟨node.toNat, by have := (inR_true.1 G1.out).1; omega⟩
           have hm : m < ns.length := by have := (inR_true.1 G1.out).2; omega
           have hb := (exN_bd hg m hm).top
           have HRD := Lib.hid (red_exN hg hm)
           clear z1 z2
           go_enter Try.func24, Try.ntmps24
           go_wp2
           clear hW0
           refine wp_region_ext (by kernel_rfl) (by kernel_rfl) ?_
           repeat (go_big_quiet_step (first
             | (go_at_call 27; exact ext_call (refIsNode_is _ _ _ _ _ hn _ G1.out))
             | (go_at_call 66; exact ext_call (refAsk_is _ _ ns _ hn _ (Nodes.lt EH.out.hN (extB_below _ _)) _ HE.out))))
           refine wpQuiet_nil ?_
           rintro _ ⟨x1, rfl⟩
           obtain ⟨W1, hW1⟩ : ∃ W1, extB W0 x1 = W1 := ⟨_, rfl⟩
           have hb01 := extB_below W0 x1
           have E1 := Lib.hid (EH.out.next (extB_below W0 x1))
           rw [hW1] at E1 hb01 ⊢
           have t1 := b2.below hb01 b2.lt
           have q0 := E1.out.bC.cell
           clear hW1 l1
           go_wp2_with (first
             | (go_at_call 70; go_must (refine (exactOf_any A c ns hg m W1 hm E1.out.hN).mono ?_; rintro e w2 ⟨rfl, hb2⟩; have E2 := E1.out.next hb2; have t2 := t1.below hb2 t1.lt))
             | (go_at_call 30; go_must (refine (reduced_any (exN ns m).1 (exN ns m).2 hb.1 (by omega) hb.2.2.1 hb.2.2.2 w2).mono ?_; rintro e w3 ⟨rfl, hb3⟩; have E3 := E2.next hb3; have t3 := t2.below hb3 t2.lt; have q1 := t3.c0; have q2 := t3.c1; have q3 := t3.fr; have q4 := fun v => (t3.set0 v).c1; have q5 := fun v => (t3.set0 v).fr)))
           have z1 := (t3.end_ (redS ((exN ns m).1, (exN ns m).2)).1 (redS ((exN ns m).1, (exN ns m).2)).2).c0
           have z2 := (t3.end_ (redS ((exN ns m).1, (exN ns m).2)).1 (redS ((exN ns m).1, (exN ns m).2)).2).c1
           refine bodyPost_ret (v := .tuple #[.agg #[.int .i64 (redS ((exN ns m).1, (exN ns m).2)).1, .int .i64 (redS ((exN ns m).1, (exN ns m).2)).2], .int .i64 0]) (by simp [results, Try.results24, go_sem, z1, z2]) rfl ⟨by rw [HS.out]; show _ = Ending.returned (.tuple #[.agg #[.int .i64 (exactV ns m).1, .int .i64 (exactV ns m).2], .int .i64 0]); rw [← HRD.out], ?_⟩
           exact (E3.hb.setCell (p := ⟨w.heap.size + 1, 0, none⟩) (by simp) _).setCell (p := ⟨w.heap.size + 1, 1, none⟩) (by simp) _)
    · have hs : exactS ns node = ((0, 0), ee) := by unfold exactS; rw [hef]; exact if_neg hne
      have HS := Lib.hid hs
      have HE := Lib.hid hee
      clear hs hef g1 hee
      go_enter Try.func24, Try.ntmps24
      go_wp2
      clear hW0
      refine wp_region_ext (by kernel_rfl) (by kernel_rfl) ?_
      repeat (go_big_quiet_step (first
        | (go_at_call 27; exact ext_call (refIsNode_is _ _ _ _ _ hn _ G1.out))
        | (go_at_call 66; exact ext_call (refAsk_is _ _ ns _ hn _ (Nodes.lt EH.out.hN (extB_below _ _)) _ HE.out))))
      refine wpQuiet_nil ?_
      rintro _ ⟨x1, rfl⟩
      have hb1 := (EH.out.next (extB_below W0 x1)).hb
      have t1 := b2.below (extB_below W0 x1) b2.lt
      have q1 := t1.c0
      have q2 := t1.c1
      have q3 := t1.fr
      have q4 := (t1.set0 0).c1
      have q5 := (t1.set0 0).fr
      have Q := Lib.hid (t1.end_ 0 0)
      clear t1
      go_wp2
      have z1 := Q.out.c0
      have z2 := Q.out.c1
      refine bodyPost_ret (v := .tuple #[.agg #[.int .i64 0, .int .i64 0], .int .i64 ee]) (by simp [results, Try.results24, go_sem, z1, z2]) rfl ⟨by rw [HS.out], ?_⟩
      exact (hb1.setCell (p := ⟨w.heap.size + 1, 0, none⟩) (by simp) _).setCell (p := ⟨w.heap.size + 1, 1, none⟩) (by simp) _

/-- The law's memory, with a copy of the custom in a box of its own. -/
structure EnvF (w : World) (A : Option Addr) (c : Nat) (ns : List Node) (t : Nat) (A' : Option Addr) (c' : Nat) (W : World) : Prop where
  e : Env w A c ns W
  b : Boxed W t 24 (.slice A' ns.length c')
  hN : Nodes W W.heap.size A' ns
theorem EnvF.next {w : World} {A : Option Addr} {c : Nat} {ns : List Node} {t : Nat} {A' : Option Addr} {c' : Nat} {W W' : World} (h : EnvF w A c ns t A' c' W) (hb : Below W.heap.size W W') : EnvF w A c ns t A' c' W' :=
  ⟨h.e.next hb, boxed_ext hb h.b, Nodes.lt h.hN hb⟩
theorem EnvF.alloc {w : World} {A : Option Addr} {c : Nat} {ns : List Node} {t : Nat} {A' : Option Addr} {c' : Nat} {W : World} (h : EnvF w A c ns t A' c' W) (o : Obj) : EnvF w A c ns t A' c' (W.alloc o) := h.next ((Below.refl _ W).alloc (Nat.le_refl _) o)
theorem refFrom_is (A : Option Addr) (c : Nat) (ns : List Node) (node coins : Int) (hn : ns.length ≤ 1000) (w : World) (hN : Nodes w w.heap.size A ns) (n e : Int) (h : fromS ns node coins = (n, e)) :
    Calls Try.prog 20 #[.agg #[.slice A ns.length c], .int .i64 node, .int .i64 coins] w fun x w' => x = .returned (.tuple #[.int .i64 n, .int .i64 e]) ∧ Below w.heap.size w w' := by
  have := refFrom_any A c ns node coins hn w hN
  rw [h] at this
  exact this
theorem refFalls_is (A : Option Addr) (c : Nat) (ns : List Node) (node : Int) (hn : ns.length ≤ 1000) (w : World) (hN : Nodes w w.heap.size A ns) (n e : Int) (h : fallsS ns node = (n, e)) :
    Calls Try.prog 22 #[.agg #[.slice A ns.length c], .int .i64 node] w fun x w' => x = .returned (.tuple #[.int .i64 n, .int .i64 e]) ∧ Below w.heap.size w w' := by
  have := refFalls_any A c ns node hn w hN
  rw [h] at this
  exact this
theorem exact_is (A : Option Addr) (c : Nat) (ns : List Node) (node : Int) (hn : ns.length ≤ 1000) (w : World) (hN : Nodes w w.heap.size A ns) (x y e : Int) (h : exactS ns node = ((x, y), e)) :
    Calls Try.prog 23 #[.agg #[.slice A ns.length c], .int .i64 node] w fun z w' => z = .returned (.tuple #[.agg #[.int .i64 x, .int .i64 y], .int .i64 e]) ∧ Below w.heap.size w w' := by
  have := exact_any A c ns node hn w hN
  rw [h] at this
  exact this
theorem refExact_is (A : Option Addr) (c : Nat) (ns : List Node) (node : Int) (hn : ns.length ≤ 1000) (w : World) (hN : Nodes w w.heap.size A ns) (x y e : Int) (h : exactS ns node = ((x, y), e)) :
    Calls Try.prog 24 #[.agg #[.slice A ns.length c], .int .i64 node] w fun z w' => z = .returned (.tuple #[.agg #[.int .i64 x, .int .i64 y], .int .i64 e]) ∧ Below w.heap.size w w' := by
  have := refExact_any A c ns node hn w hN
  rw [h] at this
  exact this

set_option maxRecDepth 100000 in
set_option maxHeartbeats 8000000 in
theorem from_law (A : Option Addr) (c : Nat) (ns : List Node) (hA : A = none → c = 0 ∧ ns = []) (hn : ns.length ≤ 9223372036854775807) (node coins : Int) (w : World) (hN : Nodes w w.heap.size A ns) :
    Calls Try.prog 3 #[.agg #[.slice A ns.length c], .int .i64 node, .int .i64 coins] w fun e w' => e = .returned (.bool true) ∧ Below w.heap.size w w' := by
  obtain ⟨W0, hW0⟩ : ∃ W0, w.alloc (.cells #[.slice A ns.length c] 24) = W0 := ⟨_, rfl⟩
  have E0 : Env w A c ns W0 := by rw [← hW0]; exact Env.new c hN
  have q0 := E0.bC.cell
  clear hN
  by_cases h40 : 40 < ns.length
  · have HF := Lib.hid (far_big A ns.length c W0 hn true (by simpa using h40))
    go_enter Try.func3, Try.ntmps3
    go_wp2_with (first
      | (go_at_call 16; go_must (refine HF.out.mono ?_; rintro e w1 ⟨rfl, hb1⟩; have E1 := E0.next hb1))
      | (go_at_call 17; go_must (refine (works_any w1).mono ?_; rintro e w2 ⟨rfl, hb2⟩; have E2 := E1.next hb2)))
    go_ret
    exact ⟨rfl, E2.hb⟩
  · have HF := Lib.hid (far_big A ns.length c W0 hn false (by simpa using h40))
    obtain ⟨n1, e1, h1⟩ : ∃ n e, fromS ns node coins = (n, e) := ⟨_, _, rfl⟩
    obtain ⟨n2, e2, h2⟩ : ∃ n e, fallsS ns node = (n, e) := ⟨_, _, rfl⟩
    obtain ⟨x3, y3, e3, h3⟩ : ∃ x y e, exactS ns node = ((x, y), e) := ⟨_, _, _, rfl⟩
    have H1 := Lib.hid h1
    have H2 := Lib.hid h2
    have H3 := Lib.hid h3
    have HA := Lib.hid hA
    have hq := eq33 x3 y3
    have hn4 : ns.length ≤ 1000 := by omega
    clear h1 h2 h3 hA
    go_enter Try.func3, Try.ntmps3
    go_wp2_with (first
      | (go_at_call 16; go_must (refine HF.out.mono ?_; rintro e w1 ⟨rfl, hb1⟩; have E1 := E0.next hb1; have a1 := E1.bC.cell))
      | (go_at_call 18; go_must (refine (copy_is A c ns HA.out hn4 w1 E1.hN).mono ?_; rintro e w2 ⟨A', c', rfl, hA', hN', _, hb2⟩; have F2 : EnvF w A c ns w2.heap.size A' c' (w2.alloc (.cells #[.slice A' ns.length c'] 24)) := ⟨(E1.next hb2).alloc _, Boxed.new _ _ _, Nodes.alloc hN' _⟩))
      | (go_at_call 19; go_must (refine (from_is A' c' ns node coins hn4 _ F2.hN _ _ H1.out).mono ?_; rintro e w3 ⟨rfl, hb3⟩; have F3 := F2.next hb3; have a3 := F3.e.bC.cell))
      | (go_at_call 20; go_must (refine (refFrom_is A c ns node coins hn4 _ F3.e.hN _ _ H1.out).mono ?_; rintro e w4 ⟨rfl, hb4⟩; have F4 := F3.next hb4; have a4 := F4.b.cell))
      | (go_at_call 21; go_must (refine (falls_is A' c' ns node hn4 _ F4.hN _ _ H2.out).mono ?_; rintro e w5 ⟨rfl, hb5⟩; have F5 := F4.next hb5; have a5 := F5.e.bC.cell))
      | (go_at_call 22; go_must (refine (refFalls_is A c ns node hn4 _ F5.e.hN _ _ H2.out).mono ?_; rintro e w6 ⟨rfl, hb6⟩; have F6 := F5.next hb6; have a6 := F6.b.cell))
      | (go_at_call 23; go_must (refine (exact_is A' c' ns node hn4 _ F6.hN _ _ _ H3.out).mono ?_; rintro e w7 ⟨rfl, hb7⟩; have F7 := (F6.next hb7).alloc (.cells #[.int .i64 x3, .int .i64 y3] 33); have a7 := F7.e.bC.cell; have t7 : Two (w7.alloc (.cells #[.int .i64 x3, .int .i64 y3] 33)) w7.heap.size x3 y3 := World.alloc_heap_new w7 _))
      | (go_at_call 24; go_must (refine (refExact_is A c ns node hn4 _ F7.e.hN _ _ _ H3.out).mono ?_; rintro e w8 ⟨rfl, hb8⟩; have F8 := (F7.next hb8).alloc (.cells #[.int .i64 x3, .int .i64 y3] 33); have a8 := F8.e.bC.cell; have b8 := F8.b.cell; have t8 : Two (w8.alloc (.cells #[.int .i64 x3, .int .i64 y3] 33)) w8.heap.size x3 y3 := World.alloc_heap_new w8 _; have t9 : Two (w8.alloc (.cells #[.int .i64 x3, .int .i64 y3] 33)) w7.heap.size x3 y3 := Two.below (Two.below t7 hb8 (Two.lt t7)) ((Below.refl _ w8).alloc (Nat.le_refl _) _) (Nat.lt_of_lt_of_le (Two.lt t7) hb8.size); have c1 := t8.c0; have c2 := t8.c1; have c3 := t9.c0; have c4 := t9.c1))
      | (go_at_call 25; go_must (refine (same_is A' A c' c ns hn4 _ F8.hN F8.e.hN).mono ?_; rintro e w9 ⟨rfl, hb9⟩; have F9 := F8.next hb9))
      | (go_at_call 17; go_must (refine (works_any w9).mono ?_; rintro e w10 ⟨rfl, hb10⟩; have F10 := F9.next hb10)))
    go_ret
    exact ⟨rfl, F10.e.hb⟩
end Go.Proofs.Ytohoonbbjkefaaa
