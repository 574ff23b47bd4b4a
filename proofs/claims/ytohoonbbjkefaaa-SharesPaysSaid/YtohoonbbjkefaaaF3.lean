import Derived.Test.YtohoonbbjkefaaaF2
namespace Go.Proofs.Ytohoonbbjkefaaa
open Go.RowKit

theorem falls_is (A : Option Addr) (c : Nat) (ns : List Node) (node : Int) (hn : ns.length ≤ 1000) (w : World) (hN : Nodes w w.heap.size A ns) (n e : Int) (h : fallsS ns node = (n, e)) :
    Calls Try.prog 21 #[.agg #[.slice A ns.length c], .int .i64 node] w fun x w' => x = .returned (.tuple #[.int .i64 n, .int .i64 e]) ∧ Below w.heap.size w w' := by
  have := falls_any A c ns node hn w hN
  rw [h] at this
  exact this
theorem fallsS_good {ns : List Node} {m : Nat} (hv : validB ns = true) (hm : m < ns.length) : fallsS ns m = firstE (fun k => decide (gotS ns (k + 1) m < gotS ns k m)) 400 := by
  have hi : inR (m : Int) 0 (ns.length - 1) = true := inR_true.2 (by omega)
  have ha : askE ns (inR (m : Int) 0 (ns.length - 1)) [] = 0 := by rw [hi, askE, hv]; simp
  unfold fallsS
  rw [if_pos ha]
  rfl
theorem isFirst_is (A : Option Addr) (c : Nat) (ns : List Node) (m : Nat) (hg : GoodC ns) (hm : m < ns.length) (w : World) (hN : Nodes w w.heap.size A ns) (b : Bool) (hb : isFirstB ns m = b) :
    Calls Try.prog 36 #[.agg #[.slice A ns.length c], .int .i64 m] w fun e w' => e = .returned (.bool b) ∧ Below w.heap.size w w' := by
  rw [← hb]; exact isFirst_any A c ns m hg hm w hN

set_option maxRecDepth 100000 in
set_option maxHeartbeats 8000000 in
theorem first_law (A : Option Addr) (c : Nat) (ns : List Node) (hn : ns.length ≤ 9223372036854775807) (node p : Int) (w : World) (hN : Nodes w w.heap.size A ns) :
    Calls Try.prog 7 #[.agg #[.slice A ns.length c], .int .i64 node, .int .i64 p] w fun e w' => e = .returned (.bool true) ∧ Below w.heap.size w w' := by
  obtain ⟨W0, hW0⟩ : ∃ W0, w.alloc (.cells #[.slice A ns.length c] 24) = W0 := ⟨_, rfl⟩
  have E0 : Env w A c ns W0 := by rw [← hW0]; exact Env.new c hN
  have q0 := E0.bC.cell
  clear hN
  cases hv : validB ns
  · have HR := Lib.hid (ready_is A c ns hn W0 E0.hN false hv)
    clear hv
    go_enter Try.func7, Try.ntmps7
    go_wp2_with (first
      | (go_at_call 26; go_must (refine HR.out.mono ?_; rintro e w1 ⟨rfl, hb1⟩; have E1 := E0.next hb1))
      | (go_at_call 17; go_must (refine (works_any w1).mono ?_; rintro e w2 ⟨rfl, hb2⟩; have E2 := E1.next hb2)))
    go_ret
    exact ⟨rfl, E2.hb⟩
  · have HR := Lib.hid (ready_is A c ns hn W0 E0.hN true hv)
    have hn8 := validB_len hv
    cases hi : inR node 0 (ns.length - 1)
    · have HI := Lib.hid hi
      clear hv hi
      go_enter Try.func7, Try.ntmps7
      go_wp2_with (first
        | (go_at_call 26; go_must (refine HR.out.mono ?_; rintro e w1 ⟨rfl, hb1⟩; have E1 := E0.next hb1; have m0 := E1.bC.cell))
        | (go_at_call 27; go_must (refine (refIsNode_is A _ c _ w1 (by omega) _ HI.out).mono ?_; rintro e w2 ⟨rfl, hb2⟩; have E2 := E1.next hb2))
        | (go_at_call 17; go_must (refine (works_any w2).mono ?_; rintro e w3 ⟨rfl, hb3⟩; have E3 := E2.next hb3)))
      go_ret
      exact ⟨rfl, E3.hb⟩
    · have HI := Lib.hid hi
      have hg := good_of hv
      have hic := inR_true.1 hi
      obtain ⟨m, rfl⟩ : ∃ m : Nat, node = m := ⟨node.toNat, by omega⟩
      have hm : m < ns.length := by omega
      have hf := fallsS_good hv hm
      rcases firstE_cases (fun k => decide (gotS ns (k + 1) m < gotS ns k m)) 400 with ⟨k, hk, hk1, hk2, hk3⟩ | ⟨hk1, hk3⟩
      · cases hp : inR p 0 399
        · have HP := Lib.hid hp
          have HF := Lib.hid (hf.trans hk3)
          have hlt := of_decide_eq_true hk1
          have hne := gotS_near hg (show (0 : Int) ≤ k by omega) m hm
          have HQ := Lib.hid (show gotS ns k m = gotS ns (k + 1) m + 1 from by omega)
          have hbd1 := gotS_bd hg (show (0 : Int) ≤ k by omega) m hm
          have hbd2 := gotS_bd hg (show (0 : Int) ≤ (k : Int) + 1 by omega) m hm
          have HB := Lib.hid (show isFirstB ns m = false from by
            cases hb : isFirstB ns m with
            | false => rfl
            | true => have := first_mono hg (show (0 : Int) ≤ k by omega) m hm hb; omega)
          have HZ1 := Lib.hid (penceE_of hv (p := k) (by omega))
          have HZ2 := Lib.hid (penceE_of hv (p := k + 1) (by omega))
          have hkp : inR (k : Int) 0 399 = true := inR_true.2 (by omega)
          clear hv hi hf hk1 hk2 hk3 hlt hne
          go_enter Try.func7, Try.ntmps7
          go_wp2_with (first
            | (go_at_call 26; go_must (refine HR.out.mono ?_; rintro e w1 ⟨rfl, hb1⟩; have E1 := E0.next hb1; have m0 := E1.bC.cell))
            | (go_at_call 27; go_must (refine (refIsNode_is A _ c _ w1 (by omega) _ HI.out).mono ?_; rintro e w2 ⟨rfl, hb2⟩; have E2 := E1.next hb2; have n0 := E2.bC.cell))
            | (go_at_call 21; go_must (refine (falls_is A c ns m (by omega) w2 E2.hN _ _ HF.out).mono ?_; rintro e w3 ⟨rfl, hb3⟩; have E3 := E2.next hb3; have o0 := E3.bC.cell))
            | (go_at_call 36; go_must (refine (isFirst_is A c ns m hg hm w3 E3.hN _ HB.out).mono ?_; rintro e w4 ⟨rfl, hb4⟩; have E4 := E3.next hb4; have p0 := E4.bC.cell))
            | (go_at_call 34; go_must (refine (refWithin_any _ _ _ _).mono ?_; rintro e w' ⟨rfl, rfl⟩))
            | (go_at_call 35; refine (lawGets_ok A c ns (k + 1) (by omega) w5 E5.hN HZ2.out).mono ?_; rintro e w6 ⟨g2, rfl, hr2, hb6⟩; have E6 := E5.next hb6)
            | (go_at_call 35; go_must (refine (lawGets_ok A c ns k (by omega) w4 E4.hN HZ1.out).mono ?_; rintro e w5 ⟨g1, rfl, hr1, hb5⟩; have E5 := E4.next hb5; have s0 := E5.bC.cell)))
          have r1 := Row.cell (Row.below hr1 hb6 (Row.lt hr1)) (k := m) (by rw [gotsS_len]; exact hm)
          have r2 := Row.cell hr2 (k := m) (by rw [gotsS_len]; exact hm)
          rw [gotsS_at hm, HQ.out] at r1
          rw [gotsS_at hm] at r2
          have x1c := extB_cell r1
          have x2c := extB_cell r2
          have hqq : (gotS ns (k + 1) m + 1 != gotS ns (k + 1) m + 1) = false := by simp
          clear hr1 hr2 r1 r2
          refine wp_region_ext (by kernel_rfl) (by kernel_rfl) ?_
          repeat (go_big_quiet_step (fail))
          refine wpQuiet_nil ?_
          rintro _ ⟨x1, rfl⟩
          obtain ⟨W7, hW7⟩ : ∃ W7, extB w6 x1 = W7 := ⟨_, rfl⟩
          have E7 := E6.next (extB_below w6 x1)
          rw [hW7] at E7 ⊢
          have t0 := E7.bC.cell
          clear hW7 x1c x2c
          go_wp2_with (first
            | (go_at_call 34; go_must (refine (refWithin_any _ _ _ _).mono ?_; rintro e w' ⟨rfl, rfl⟩))
            | (go_at_call 17; go_must (refine (works_any W7).mono ?_; rintro e w9 ⟨rfl, hb9⟩; have E9 := E7.next hb9)))
          go_ret
          exact ⟨rfl, E9.hb⟩
        · have hpp := inR_true.1 hp
          obtain ⟨pn, rfl⟩ : ∃ pn : Nat, p = pn := ⟨p.toNat, by omega⟩
          by_cases hge : k ≤ pn
          · skip
            have HF := Lib.hid (hf.trans hk3)
            have hlt := of_decide_eq_true hk1
            have hne := gotS_near hg (show (0 : Int) ≤ k by omega) m hm
            have HQ := Lib.hid (show gotS ns k m = gotS ns (k + 1) m + 1 from by omega)
            have hbd1 := gotS_bd hg (show (0 : Int) ≤ k by omega) m hm
            have hbd2 := gotS_bd hg (show (0 : Int) ≤ (k : Int) + 1 by omega) m hm
            have HB := Lib.hid (show isFirstB ns m = false from by
              cases hb : isFirstB ns m with
              | false => rfl
              | true => have := first_mono hg (show (0 : Int) ≤ k by omega) m hm hb; omega)
            have HZ1 := Lib.hid (penceE_of hv (p := k) (by omega))
            have HZ2 := Lib.hid (penceE_of hv (p := k + 1) (by omega))
            have hkp : inR (k : Int) 0 399 = true := inR_true.2 (by omega)
            clear hv hi hf hk1 hk2 hk3 hlt hne
            go_enter Try.func7, Try.ntmps7
            go_wp2_with (first
              | (go_at_call 26; go_must (refine HR.out.mono ?_; rintro e w1 ⟨rfl, hb1⟩; have E1 := E0.next hb1; have m0 := E1.bC.cell))
              | (go_at_call 27; go_must (refine (refIsNode_is A _ c _ w1 (by omega) _ HI.out).mono ?_; rintro e w2 ⟨rfl, hb2⟩; have E2 := E1.next hb2; have n0 := E2.bC.cell))
              | (go_at_call 21; go_must (refine (falls_is A c ns m (by omega) w2 E2.hN _ _ HF.out).mono ?_; rintro e w3 ⟨rfl, hb3⟩; have E3 := E2.next hb3; have o0 := E3.bC.cell))
              | (go_at_call 36; go_must (refine (isFirst_is A c ns m hg hm w3 E3.hN _ HB.out).mono ?_; rintro e w4 ⟨rfl, hb4⟩; have E4 := E3.next hb4; have p0 := E4.bC.cell))
              | (go_at_call 34; go_must (refine (refWithin_any _ _ _ _).mono ?_; rintro e w' ⟨rfl, rfl⟩))
              | (go_at_call 35; refine (lawGets_ok A c ns (k + 1) (by omega) w5 E5.hN HZ2.out).mono ?_; rintro e w6 ⟨g2, rfl, hr2, hb6⟩; have E6 := E5.next hb6)
              | (go_at_call 35; go_must (refine (lawGets_ok A c ns k (by omega) w4 E4.hN HZ1.out).mono ?_; rintro e w5 ⟨g1, rfl, hr1, hb5⟩; have E5 := E4.next hb5; have s0 := E5.bC.cell)))
            have r1 := Row.cell (Row.below hr1 hb6 (Row.lt hr1)) (k := m) (by rw [gotsS_len]; exact hm)
            have r2 := Row.cell hr2 (k := m) (by rw [gotsS_len]; exact hm)
            rw [gotsS_at hm, HQ.out] at r1
            rw [gotsS_at hm] at r2
            have x1c := extB_cell r1
            have x2c := extB_cell r2
            have hqq : (gotS ns (k + 1) m + 1 != gotS ns (k + 1) m + 1) = false := by simp
            clear hr1 hr2 r1 r2
            refine wp_region_ext (by kernel_rfl) (by kernel_rfl) ?_
            repeat (go_big_quiet_step (fail))
            refine wpQuiet_nil ?_
            rintro _ ⟨x1, rfl⟩
            obtain ⟨W7, hW7⟩ : ∃ W7, extB w6 x1 = W7 := ⟨_, rfl⟩
            have E7 := E6.next (extB_below w6 x1)
            rw [hW7] at E7 ⊢
            have t0 := E7.bC.cell
            clear hW7 x1c x2c
            go_wp2_with (first
              | (go_at_call 34; go_must (refine (refWithin_any _ _ _ _).mono ?_; rintro e w' ⟨rfl, rfl⟩))
              | (go_at_call 17; go_must (refine (works_any W7).mono ?_; rintro e w9 ⟨rfl, hb9⟩; have E9 := E7.next hb9)))
            go_ret
            exact ⟨rfl, E9.hb⟩
          · have HL := Lib.hid (show gotS ns pn m ≤ gotS ns (pn + 1) m from by have := of_decide_eq_false (hk2 pn (by omega)); omega)
            have HY1 := Lib.hid (penceE_of hv (p := pn) (by omega))
            have HY2 := Lib.hid (penceE_of hv (p := pn + 1) (by omega))
            have HF := Lib.hid (hf.trans hk3)
            have hlt := of_decide_eq_true hk1
            have hne := gotS_near hg (show (0 : Int) ≤ k by omega) m hm
            have HQ := Lib.hid (show gotS ns k m = gotS ns (k + 1) m + 1 from by omega)
            have hbd1 := gotS_bd hg (show (0 : Int) ≤ k by omega) m hm
            have hbd2 := gotS_bd hg (show (0 : Int) ≤ (k : Int) + 1 by omega) m hm
            have HB := Lib.hid (show isFirstB ns m = false from by
              cases hb : isFirstB ns m with
              | false => rfl
              | true => have := first_mono hg (show (0 : Int) ≤ k by omega) m hm hb; omega)
            have HZ1 := Lib.hid (penceE_of hv (p := k) (by omega))
            have HZ2 := Lib.hid (penceE_of hv (p := k + 1) (by omega))
            have hkp : inR (k : Int) 0 399 = true := inR_true.2 (by omega)
            clear hv hi hf hk1 hk2 hk3 hlt hne
            go_enter Try.func7, Try.ntmps7
            go_wp2_with (first
              | (go_at_call 26; go_must (refine HR.out.mono ?_; rintro e w1 ⟨rfl, hb1⟩; have E1 := E0.next hb1; have m0 := E1.bC.cell))
              | (go_at_call 27; go_must (refine (refIsNode_is A _ c _ w1 (by omega) _ HI.out).mono ?_; rintro e w2 ⟨rfl, hb2⟩; have E2 := E1.next hb2; have n0 := E2.bC.cell))
              | (go_at_call 21; go_must (refine (falls_is A c ns m (by omega) w2 E2.hN _ _ HF.out).mono ?_; rintro e w3 ⟨rfl, hb3⟩; have E3 := E2.next hb3; have o0 := E3.bC.cell))
              | (go_at_call 36; go_must (refine (isFirst_is A c ns m hg hm w3 E3.hN _ HB.out).mono ?_; rintro e w4 ⟨rfl, hb4⟩; have E4 := E3.next hb4; have p0 := E4.bC.cell))
              | (go_at_call 34; go_must (refine (refWithin_any _ _ _ _).mono ?_; rintro e w' ⟨rfl, rfl⟩))
              | (go_at_call 35; refine (lawGets_ok A c ns (k + 1) (by omega) w5 E5.hN HZ2.out).mono ?_; rintro e w6 ⟨g2, rfl, hr2, hb6⟩; have E6 := E5.next hb6)
              | (go_at_call 35; go_must (refine (lawGets_ok A c ns k (by omega) w4 E4.hN HZ1.out).mono ?_; rintro e w5 ⟨g1, rfl, hr1, hb5⟩; have E5 := E4.next hb5; have s0 := E5.bC.cell)))
            have r1 := Row.cell (Row.below hr1 hb6 (Row.lt hr1)) (k := m) (by rw [gotsS_len]; exact hm)
            have r2 := Row.cell hr2 (k := m) (by rw [gotsS_len]; exact hm)
            rw [gotsS_at hm, HQ.out] at r1
            rw [gotsS_at hm] at r2
            have x1c := extB_cell r1
            have x2c := extB_cell r2
            have hqq : (gotS ns (k + 1) m + 1 != gotS ns (k + 1) m + 1) = false := by simp
            clear hr1 hr2 r1 r2
            refine wp_region_ext (by kernel_rfl) (by kernel_rfl) ?_
            repeat (go_big_quiet_step (fail))
            refine wpQuiet_nil ?_
            rintro _ ⟨x1, rfl⟩
            obtain ⟨W7, hW7⟩ : ∃ W7, extB w6 x1 = W7 := ⟨_, rfl⟩
            have E7 := E6.next (extB_below w6 x1)
            rw [hW7] at E7 ⊢
            have t0 := E7.bC.cell
            clear hW7 x1c x2c
            go_wp2_with (first
              | (go_at_call 34; go_must (refine (refWithin_any _ _ _ _).mono ?_; rintro e w' ⟨rfl, rfl⟩))
              | (go_at_call 35; refine (lawGets_ok A c ns (pn + 1) (by omega) w8 E8.hN HY2.out).mono ?_; rintro e w9 ⟨g4, rfl, hr4, hb9⟩; have E9 := E8.next hb9)
              | (go_at_call 35; go_must (refine (lawGets_ok A c ns pn (by omega) W7 E7.hN HY1.out).mono ?_; rintro e w8 ⟨g3, rfl, hr3, hb8⟩; have E8 := E7.next hb8; have s0 := E8.bC.cell)))
            have r3 := Row.cell (Row.below hr3 hb9 (Row.lt hr3)) (k := m) (by rw [gotsS_len]; exact hm)
            have r4 := Row.cell hr4 (k := m) (by rw [gotsS_len]; exact hm)
            rw [gotsS_at hm] at r3 r4
            have x3c := extB_cell r3
            have x4c := extB_cell r4
            have hdd : decide (gotS ns pn m ≤ gotS ns (pn + 1) m) = true := decide_eq_true HL.out
            clear hr3 hr4 r3 r4
            refine wp_region_ext (by kernel_rfl) (by kernel_rfl) ?_
            repeat (go_big_quiet_step ((go_at_call 17; exact ext_call (works_any _))))
            refine wpQuiet_nil ?_
            rintro _ ⟨x2, rfl⟩
            have hbE := (E9.next (extB_below w9 x2)).hb
            go_wp2
            go_ret
            exact ⟨rfl, hbE⟩
      · have HF := Lib.hid (hf.trans hk3)
        cases hp : inR p 0 399
        · cases hbb : isFirstB ns m
          all_goals
            have HB := Lib.hid hbb
            clear hv hi hf hk1 hk3 hbb
            go_enter Try.func7, Try.ntmps7
            go_wp2_with (first
              | (go_at_call 26; go_must (refine HR.out.mono ?_; rintro e w1 ⟨rfl, hb1⟩; have E1 := E0.next hb1; have m0 := E1.bC.cell))
              | (go_at_call 27; go_must (refine (refIsNode_is A _ c _ w1 (by omega) _ HI.out).mono ?_; rintro e w2 ⟨rfl, hb2⟩; have E2 := E1.next hb2; have n0 := E2.bC.cell))
              | (go_at_call 21; go_must (refine (falls_is A c ns m (by omega) w2 E2.hN _ _ HF.out).mono ?_; rintro e w3 ⟨rfl, hb3⟩; have E3 := E2.next hb3; have o0 := E3.bC.cell))
              | (go_at_call 36; go_must (refine (isFirst_is A c ns m hg hm w3 E3.hN _ HB.out).mono ?_; rintro e w4 ⟨rfl, hb4⟩; have E4 := E3.next hb4; have p0 := E4.bC.cell))
              | (go_at_call 34; go_must (refine (refWithin_any _ _ _ _).mono ?_; rintro e w' ⟨rfl, rfl⟩))
              | (go_at_call 17; go_must (refine (works_any w4).mono ?_; rintro e w5 ⟨rfl, hb5⟩; have E5 := E4.next hb5)))
            go_ret
            exact ⟨rfl, E5.hb⟩
        · have hpp := inR_true.1 hp
          obtain ⟨pn, rfl⟩ : ∃ pn : Nat, p = pn := ⟨p.toNat, by omega⟩
          have HL := Lib.hid (show gotS ns pn m ≤ gotS ns (pn + 1) m from by have := of_decide_eq_false (hk1 pn (by omega)); omega)
          have HY1 := Lib.hid (penceE_of hv (p := pn) (by omega))
          have HY2 := Lib.hid (penceE_of hv (p := pn + 1) (by omega))
          cases hbb : isFirstB ns m
          all_goals
            have HB := Lib.hid hbb
            clear hv hi hf hk1 hk3 hbb
            go_enter Try.func7, Try.ntmps7
            go_wp2_with (first
              | (go_at_call 26; go_must (refine HR.out.mono ?_; rintro e w1 ⟨rfl, hb1⟩; have E1 := E0.next hb1; have m0 := E1.bC.cell))
              | (go_at_call 27; go_must (refine (refIsNode_is A _ c _ w1 (by omega) _ HI.out).mono ?_; rintro e w2 ⟨rfl, hb2⟩; have E2 := E1.next hb2; have n0 := E2.bC.cell))
              | (go_at_call 21; go_must (refine (falls_is A c ns m (by omega) w2 E2.hN _ _ HF.out).mono ?_; rintro e w3 ⟨rfl, hb3⟩; have E3 := E2.next hb3; have o0 := E3.bC.cell))
              | (go_at_call 36; go_must (refine (isFirst_is A c ns m hg hm w3 E3.hN _ HB.out).mono ?_; rintro e w4 ⟨rfl, hb4⟩; have E4 := E3.next hb4; have p0 := E4.bC.cell))
              | (go_at_call 34; go_must (refine (refWithin_any _ _ _ _).mono ?_; rintro e w' ⟨rfl, rfl⟩))
              | (go_at_call 35; refine (lawGets_ok A c ns (pn + 1) (by omega) w8 E8.hN HY2.out).mono ?_; rintro e w9 ⟨g4, rfl, hr4, hb9⟩; have E9 := E8.next hb9)
              | (go_at_call 35; go_must (refine (lawGets_ok A c ns pn (by omega) w4 E4.hN HY1.out).mono ?_; rintro e w8 ⟨g3, rfl, hr3, hb8⟩; have E8 := E4.next hb8; have s0 := E8.bC.cell)))
            have r3 := Row.cell (Row.below hr3 hb9 (Row.lt hr3)) (k := m) (by rw [gotsS_len]; exact hm)
            have r4 := Row.cell hr4 (k := m) (by rw [gotsS_len]; exact hm)
            rw [gotsS_at hm] at r3 r4
            have x3c := extB_cell r3
            have x4c := extB_cell r4
            have hdd : decide (gotS ns pn m ≤ gotS ns (pn + 1) m) = true := decide_eq_true HL.out
            clear hr3 hr4 r3 r4
            refine wp_region_ext (by kernel_rfl) (by kernel_rfl) ?_
            repeat (go_big_quiet_step ((go_at_call 17; exact ext_call (works_any _))))
            refine wpQuiet_nil ?_
            rintro _ ⟨x2, rfl⟩
            have hbE := (E9.next (extB_below w9 x2)).hb
            go_wp2
            go_ret
            exact ⟨rfl, hbE⟩
end Go.Proofs.Ytohoonbbjkefaaa
