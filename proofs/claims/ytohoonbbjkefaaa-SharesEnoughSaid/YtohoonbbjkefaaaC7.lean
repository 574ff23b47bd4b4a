import Derived.Test.YtohoonbbjkefaaaC6
namespace Go.Proofs.Ytohoonbbjkefaaa
open Go.RowKit

theorem firstE_cases (p : Nat → Bool) : ∀ n, (∃ k, k < n ∧ p k = true ∧ (∀ j, j < k → p j = false) ∧ firstE p n = ((k : Int), 0)) ∨ ((∀ j, j < n → p j = false) ∧ firstE p n = (0, 3))
  | 0 => .inr ⟨fun j hj => by omega, rfl⟩
  | n + 1 => by
    rcases firstE_cases p n with ⟨k, h1, h2, h3, _⟩ | ⟨h1, _⟩
    · exact .inl ⟨k, by omega, h2, h3, firstE_hit (by omega) h3 h2⟩
    · cases hp : p n
      · have h2 : ∀ j, j < n + 1 → p j = false := fun j hj => by
          by_cases e : j = n
          · rw [e]; exact hp
          · exact h1 j (by omega)
        exact .inr ⟨h2, firstE_none h2⟩
      · exact .inl ⟨n, by omega, hp, h1, firstE_hit (by omega) h1 hp⟩
theorem gotS_start {ns : List Node} (h : GoodC ns) {n : Nat} (hn : n < ns.length) : gotS ns 0 n = 0 := by
  have := gotS_bd h (show (0 : Int) ≤ 0 by omega) n hn
  omega
/-- Where a node first gets enough it gets just so many. -/
theorem reach_eq {ns : List Node} (h : GoodC ns) {n : Nat} (hn : n < ns.length) {coins : Int} (h0 : 0 ≤ coins) {k : Nat} (hk : decide (coins ≤ gotS ns k n) = true) (hj : ∀ j, j < k → decide (coins ≤ gotS ns j n) = false) : gotS ns k n = coins := by
  have hk' : coins ≤ gotS ns k n := of_decide_eq_true hk
  cases k with
  | zero =>
    have := gotS_start h hn
    have h2 : coins ≤ gotS ns 0 n := hk'
    show gotS ns 0 n = coins
    omega
  | succ j =>
    have h1 := of_decide_eq_false (hj j (by omega))
    have h2 := (gotS_near h (show (0 : Int) ≤ j by omega) n hn).2
    have e : ((j + 1 : Nat) : Int) = (j : Int) + 1 := by omega
    rw [e] at hk' ⊢
    omega

/-- The law's own memory: the custom's box; the custom; whatever lay there before. -/
structure Env (w : World) (A : Option Addr) (c : Nat) (ns : List Node) (W : World) : Prop where
  bC : Boxed W w.heap.size 24 (.slice A ns.length c)
  hN : Nodes W W.heap.size A ns
  hb : Below w.heap.size w W
theorem Env.next {w : World} {A : Option Addr} {c : Nat} {ns : List Node} {W W' : World} (h : Env w A c ns W) (hb : Below W.heap.size W W') : Env w A c ns W' :=
  ⟨boxed_ext hb h.bC, Nodes.lt h.hN hb, hb0to h.hb hb⟩
theorem Env.new {w : World} {A : Option Addr} {ns : List Node} (c : Nat) (hN : Nodes w w.heap.size A ns) : Env w A c ns (w.alloc (.cells #[.slice A ns.length c] 24)) :=
  ⟨Boxed.new _ _ _, Nodes.alloc hN _, (Below.refl _ w).alloc (Nat.le_refl _) _⟩
theorem Env.alloc {w : World} {A : Option Addr} {c : Nat} {ns : List Node} {W : World} (h : Env w A c ns W) (o : Obj) : Env w A c ns (W.alloc o) := h.next ((Below.refl _ W).alloc (Nat.le_refl _) o)
/-- With a box of three numbers behind it. -/
structure EnvT (w : World) (A : Option Addr) (c : Nat) (ns : List Node) (t n p : Int) (W : World) : Prop where
  e : Env w A c ns W
  b : W.heap[w.heap.size + 1]? = some (.cells #[.int .i64 t, .int .i64 n, .int .i64 p] 53 (0, 0))
theorem EnvT.next {w : World} {A : Option Addr} {c : Nat} {ns : List Node} {t n p : Int} {W W' : World} (h : EnvT w A c ns t n p W) (hb : Below W.heap.size W W') : EnvT w A c ns t n p W' :=
  ⟨h.e.next hb, (hb.block _ (Array.getElem?_eq_some_iff.1 h.b).1).trans h.b⟩
theorem EnvT.new {w : World} {A : Option Addr} {ns : List Node} (c : Nat) (t n p : Int) (hN : Nodes w w.heap.size A ns) : EnvT w A c ns t n p ((w.alloc (.cells #[.slice A ns.length c] 24)).alloc (.cells #[.int .i64 t, .int .i64 n, .int .i64 p] 53)) := by
  refine ⟨(Env.new c hN).alloc _, ?_⟩
  have := World.alloc_heap_new (w.alloc (.cells #[.slice A ns.length c] 24)) (.cells #[.int .i64 t, .int .i64 n, .int .i64 p] 53)
  simpa only [World.size_alloc] using this
theorem EnvT.c1 {w : World} {A : Option Addr} {c : Nat} {ns : List Node} {t n p : Int} {W : World} (h : EnvT w A c ns t n p W) : W.cell? ⟨w.heap.size + 1, 1, none⟩ = some (.int .i64 n) := by simp [World.cell?, h.b]
theorem EnvT.c2 {w : World} {A : Option Addr} {c : Nat} {ns : List Node} {t n p : Int} {W : World} (h : EnvT w A c ns t n p W) : W.cell? ⟨w.heap.size + 1, 2, none⟩ = some (.int .i64 p) := by simp [World.cell?, h.b]
theorem EnvT.c0 {w : World} {A : Option Addr} {c : Nat} {ns : List Node} {t n p : Int} {W : World} (h : EnvT w A c ns t n p W) : W.cell? ⟨w.heap.size + 1, 0, none⟩ = some (.int .i64 t) := by simp [World.cell?, h.b]

theorem refIsNode_is (A : Option Addr) (n c : Nat) (k : Int) (w : World) (hn : n ≤ 1000) (b : Bool) (hb : inR k 0 (n - 1) = b) : Calls Try.prog 27 #[.agg #[.slice A n c], .int .i64 k] w fun e w' => e = .returned (.bool b) ∧ Below w.heap.size w w' := by
  rw [← hb]; exact refIsNode_any A n c k w hn
theorem from_is (A : Option Addr) (c : Nat) (ns : List Node) (node coins : Int) (hn : ns.length ≤ 1000) (w : World) (hN : Nodes w w.heap.size A ns) (n e : Int) (h : fromS ns node coins = (n, e)) :
    Calls Try.prog 19 #[.agg #[.slice A ns.length c], .int .i64 node, .int .i64 coins] w fun x w' => x = .returned (.tuple #[.int .i64 n, .int .i64 e]) ∧ Below w.heap.size w w' := by
  have := from_any A c ns node coins hn w hN
  rw [h] at this
  exact this
theorem fromS_good {ns : List Node} {m : Nat} {coins : Int} (hv : validB ns = true) (hm : m < ns.length) (hc : inR coins 0 400 = true) : fromS ns m coins = firstE (fun k => decide (coins ≤ gotS ns k m)) 401 := by
  have hi : inR (m : Int) 0 (ns.length - 1) = true := inR_true.2 (by omega)
  have ha : askE ns (inR (m : Int) 0 (ns.length - 1) && inR coins 0 400) [] = 0 := by rw [hi, hc, askE, hv]; simp
  unfold fromS
  rw [if_pos ha]
  rfl

set_option maxRecDepth 100000 in
set_option maxHeartbeats 4000000 in
theorem reach_law (A : Option Addr) (c : Nat) (ns : List Node) (hn : ns.length ≤ 9223372036854775807) (t node p coins : Int) (w : World) (hN : Nodes w w.heap.size A ns) :
    Calls Try.prog 9 #[.agg #[.slice A ns.length c], .agg #[.int .i64 t, .int .i64 node, .int .i64 p], .int .i64 coins] w fun e w' => e = .returned (.bool true) ∧ Below w.heap.size w w' := by
  obtain ⟨W0, hW0⟩ : ∃ W0, (w.alloc (.cells #[.slice A ns.length c] 24)).alloc (.cells #[.int .i64 t, .int .i64 node, .int .i64 p] 53) = W0 := ⟨_, rfl⟩
  have E0 : EnvT w A c ns t node p W0 := by rw [← hW0]; exact EnvT.new c t node p hN
  have q0 := E0.e.bC.cell
  have q1 := E0.c1
  clear hN
  cases hv : validB ns
  · have HR := Lib.hid (ready_is A c ns hn W0 E0.e.hN false hv)
    clear hv
    go_enter Try.func9, Try.ntmps9
    go_wp2_with (first
      | (go_at_call 26; go_must (refine HR.out.mono ?_; rintro e w1 ⟨rfl, hb1⟩; have E1 := E0.next hb1))
      | (go_at_call 17; go_must (refine (works_any w1).mono ?_; rintro e w2 ⟨rfl, hb2⟩; have E2 := E1.next hb2)))
    go_ret
    exact ⟨rfl, E2.e.hb⟩
  · have HR := Lib.hid (ready_is A c ns hn W0 E0.e.hN true hv)
    have hn8 := validB_len hv
    cases hi : inR node 0 (ns.length - 1)
    · have HI := Lib.hid hi
      clear hv hi
      go_enter Try.func9, Try.ntmps9
      go_wp2_with (first
        | (go_at_call 26; go_must (refine HR.out.mono ?_; rintro e w1 ⟨rfl, hb1⟩; have E1 := E0.next hb1; have m0 := E1.e.bC.cell; have m1 := E1.c1))
        | (go_at_call 27; go_must (refine (refIsNode_is A _ c _ w1 (by omega) _ HI.out).mono ?_; rintro e w2 ⟨rfl, hb2⟩; have E2 := E1.next hb2))
        | (go_at_call 17; go_must (refine (works_any w2).mono ?_; rintro e w3 ⟨rfl, hb3⟩; have E3 := E2.next hb3)))
      go_ret
      exact ⟨rfl, E3.e.hb⟩
    · have HI := Lib.hid hi
      cases hc : inR coins 0 400
      · clear hv hi
        go_enter Try.func9, Try.ntmps9
        go_wp2_with (first
          | (go_at_call 26; go_must (refine HR.out.mono ?_; rintro e w1 ⟨rfl, hb1⟩; have E1 := E0.next hb1; have m0 := E1.e.bC.cell; have m1 := E1.c1))
          | (go_at_call 27; go_must (refine (refIsNode_is A _ c _ w1 (by omega) _ HI.out).mono ?_; rintro e w2 ⟨rfl, hb2⟩; have E2 := E1.next hb2))
          | (go_at_call 32; go_must (refine (refIsPence_any _ _).mono ?_; rintro e w' ⟨rfl, rfl⟩))
          | (go_at_call 17; go_must (refine (works_any w2).mono ?_; rintro e w3 ⟨rfl, hb3⟩; have E3 := E2.next hb3)))
        go_ret
        exact ⟨rfl, E3.e.hb⟩
      · have hg := good_of hv
        have hic := inR_true.1 hi
        have hcc := inR_true.1 hc
        obtain ⟨m, rfl⟩ : ∃ m : Nat, node = m := ⟨node.toNat, by omega⟩
        have hm : m < ns.length := by omega
        have hf := fromS_good hv hm hc
        cases hp : inR p 0 400
        · rcases firstE_cases (fun k => decide (coins ≤ gotS ns k m)) 401 with ⟨k, hk, hk1, hk2, hk3⟩ | ⟨hk1, hk3⟩
          · have HF := Lib.hid (hf.trans hk3)
            have HQ := Lib.hid (reach_eq hg hm hcc.1 hk1 hk2)
            have HZ := Lib.hid (penceE_of hv (p := k) (by omega))
            have hkp : inR (k : Int) 0 400 = true := inR_true.2 (by omega)
            clear hv hi hf hk1 hk2 hk3
            go_enter Try.func9, Try.ntmps9
            go_wp2_with (first
              | (go_at_call 26; go_must (refine HR.out.mono ?_; rintro e w1 ⟨rfl, hb1⟩; have E1 := E0.next hb1; have m0 := E1.e.bC.cell; have m1 := E1.c1))
              | (go_at_call 27; go_must (refine (refIsNode_is A _ c _ w1 (by omega) _ HI.out).mono ?_; rintro e w2 ⟨rfl, hb2⟩; have E2 := E1.next hb2; have n0 := E2.e.bC.cell; have n1 := E2.c1))
              | (go_at_call 32; go_must (refine (refIsPence_any _ _).mono ?_; rintro e w' ⟨rfl, rfl⟩))
              | (go_at_call 19; go_must (refine (from_is A c ns m coins (by omega) w2 E2.e.hN _ _ HF.out).mono ?_; rintro e w3 ⟨rfl, hb3⟩; have E3 := E2.next hb3; have o0 := E3.e.bC.cell))
              | (go_at_call 35; go_must (refine (lawGets_ok A c ns k (by omega) w3 E3.e.hN HZ.out).mono ?_; rintro e w4 ⟨g, rfl, hr, hb4⟩; have E4 := E3.next hb4; have p1 := E4.c1; have p2 := E4.c2; have r1 := Row.cell hr (k := m) (by rw [gotsS_len]; exact hm); rw [gotsS_at hm, HQ.out] at r1; clear hr))
              | (go_at_call 17; go_must (refine (works_any w4).mono ?_; rintro e w5 ⟨rfl, hb5⟩; have E5 := E4.next hb5)))
            go_ret
            exact ⟨rfl, E5.e.hb⟩
          · have HF := Lib.hid (hf.trans hk3)
            clear hv hi hf hk1 hk3
            go_enter Try.func9, Try.ntmps9
            go_wp2_with (first
              | (go_at_call 26; go_must (refine HR.out.mono ?_; rintro e w1 ⟨rfl, hb1⟩; have E1 := E0.next hb1; have m0 := E1.e.bC.cell; have m1 := E1.c1))
              | (go_at_call 27; go_must (refine (refIsNode_is A _ c _ w1 (by omega) _ HI.out).mono ?_; rintro e w2 ⟨rfl, hb2⟩; have E2 := E1.next hb2; have n0 := E2.e.bC.cell; have n1 := E2.c1))
              | (go_at_call 32; go_must (refine (refIsPence_any _ _).mono ?_; rintro e w' ⟨rfl, rfl⟩))
              | (go_at_call 19; go_must (refine (from_is A c ns m coins (by omega) w2 E2.e.hN _ _ HF.out).mono ?_; rintro e w3 ⟨rfl, hb3⟩; have E3 := E2.next hb3; have o2 := E3.c2))
              | (go_at_call 17; go_must (refine (works_any w3).mono ?_; rintro e w5 ⟨rfl, hb5⟩; have E5 := E3.next hb5)))
            go_ret
            exact ⟨rfl, E5.e.hb⟩
        · have hpp := inR_true.1 hp
          obtain ⟨pn, rfl⟩ : ∃ pn : Nat, p = pn := ⟨p.toNat, by omega⟩
          have HZ2 := Lib.hid (penceE_of hv (p := pn) hpp)
          rcases firstE_cases (fun k => decide (coins ≤ gotS ns k m)) 401 with ⟨k, hk, hk1, hk2, hk3⟩ | ⟨hk1, hk3⟩
          · have HF := Lib.hid (hf.trans hk3)
            have HQ := Lib.hid (reach_eq hg hm hcc.1 hk1 hk2)
            have HZ := Lib.hid (penceE_of hv (p := k) (by omega))
            have hkp : inR (k : Int) 0 400 = true := inR_true.2 (by omega)
            by_cases hge : k ≤ pn
            · clear hv hi hf hk1 hk2 hk3
              go_enter Try.func9, Try.ntmps9
              go_wp2_with (first
                | (go_at_call 26; go_must (refine HR.out.mono ?_; rintro e w1 ⟨rfl, hb1⟩; have E1 := E0.next hb1; have m0 := E1.e.bC.cell; have m1 := E1.c1))
                | (go_at_call 27; go_must (refine (refIsNode_is A _ c _ w1 (by omega) _ HI.out).mono ?_; rintro e w2 ⟨rfl, hb2⟩; have E2 := E1.next hb2; have n0 := E2.e.bC.cell; have n1 := E2.c1))
                | (go_at_call 32; go_must (refine (refIsPence_any _ _).mono ?_; rintro e w' ⟨rfl, rfl⟩))
                | (go_at_call 19; go_must (refine (from_is A c ns m coins (by omega) w2 E2.e.hN _ _ HF.out).mono ?_; rintro e w3 ⟨rfl, hb3⟩; have E3 := E2.next hb3; have o0 := E3.e.bC.cell))
                | (go_at_call 35; go_must (refine (lawGets_ok A c ns k (by omega) w3 E3.e.hN HZ.out).mono ?_; rintro e w4 ⟨g, rfl, hr, hb4⟩; have E4 := E3.next hb4; have p1 := E4.c1; have p2 := E4.c2; have r1 := Row.cell hr (k := m) (by rw [gotsS_len]; exact hm); rw [gotsS_at hm, HQ.out] at r1; clear hr))
                | (go_at_call 17; go_must (refine (works_any w4).mono ?_; rintro e w5 ⟨rfl, hb5⟩; have E5 := E4.next hb5)))
              go_ret
              exact ⟨rfl, E5.e.hb⟩
            · have hlt : gotS ns pn m < coins := by have := of_decide_eq_false (hk2 pn (by omega)); omega
              clear hv hi hf hk1 hk2 hk3
              go_enter Try.func9, Try.ntmps9
              go_wp2_with (first
                | (go_at_call 26; go_must (refine HR.out.mono ?_; rintro e w1 ⟨rfl, hb1⟩; have E1 := E0.next hb1; have m0 := E1.e.bC.cell; have m1 := E1.c1))
                | (go_at_call 27; go_must (refine (refIsNode_is A _ c _ w1 (by omega) _ HI.out).mono ?_; rintro e w2 ⟨rfl, hb2⟩; have E2 := E1.next hb2; have n0 := E2.e.bC.cell; have n1 := E2.c1))
                | (go_at_call 32; go_must (refine (refIsPence_any _ _).mono ?_; rintro e w' ⟨rfl, rfl⟩))
                | (go_at_call 19; go_must (refine (from_is A c ns m coins (by omega) w2 E2.e.hN _ _ HF.out).mono ?_; rintro e w3 ⟨rfl, hb3⟩; have E3 := E2.next hb3; have o0 := E3.e.bC.cell))
                | (go_at_call 35; refine (lawGets_ok A c ns pn (by omega) w4 E4.e.hN HZ2.out).mono ?_; rintro e w6 ⟨g2, rfl, hr2, hb6⟩; have E6 := E4.next hb6; have s1 := E6.c1; have r2 := Row.cell hr2 (k := m) (by rw [gotsS_len]; exact hm); rw [gotsS_at hm] at r2; clear hr2)
                | (go_at_call 35; go_must (refine (lawGets_ok A c ns k (by omega) w3 E3.e.hN HZ.out).mono ?_; rintro e w4 ⟨g, rfl, hr, hb4⟩; have E4 := E3.next hb4; have p0 := E4.e.bC.cell; have p1 := E4.c1; have p2 := E4.c2; have r1 := Row.cell hr (k := m) (by rw [gotsS_len]; exact hm); rw [gotsS_at hm, HQ.out] at r1; clear hr))
                | (go_at_call 17; go_must (refine (works_any w6).mono ?_; rintro e w5 ⟨rfl, hb5⟩; have E5 := E6.next hb5)))
              go_ret
              exact ⟨rfl, E5.e.hb⟩
          · have HF := Lib.hid (hf.trans hk3)
            have hlt : gotS ns pn m < coins := by have := of_decide_eq_false (hk1 pn (by omega)); omega
            clear hv hi hf hk1 hk3
            go_enter Try.func9, Try.ntmps9
            go_wp2_with (first
              | (go_at_call 26; go_must (refine HR.out.mono ?_; rintro e w1 ⟨rfl, hb1⟩; have E1 := E0.next hb1; have m0 := E1.e.bC.cell; have m1 := E1.c1))
              | (go_at_call 27; go_must (refine (refIsNode_is A _ c _ w1 (by omega) _ HI.out).mono ?_; rintro e w2 ⟨rfl, hb2⟩; have E2 := E1.next hb2; have n0 := E2.e.bC.cell; have n1 := E2.c1))
              | (go_at_call 32; go_must (refine (refIsPence_any _ _).mono ?_; rintro e w' ⟨rfl, rfl⟩))
              | (go_at_call 19; go_must (refine (from_is A c ns m coins (by omega) w2 E2.e.hN _ _ HF.out).mono ?_; rintro e w3 ⟨rfl, hb3⟩; have E3 := E2.next hb3; have o0 := E3.e.bC.cell; have o2 := E3.c2))
              | (go_at_call 35; go_must (refine (lawGets_ok A c ns pn (by omega) w3 E3.e.hN HZ2.out).mono ?_; rintro e w6 ⟨g2, rfl, hr2, hb6⟩; have E6 := E3.next hb6; have s1 := E6.c1; have r2 := Row.cell hr2 (k := m) (by rw [gotsS_len]; exact hm); rw [gotsS_at hm] at r2; clear hr2))
              | (go_at_call 17; go_must (refine (works_any w6).mono ?_; rintro e w5 ⟨rfl, hb5⟩; have E5 := E6.next hb5)))
            go_ret
            exact ⟨rfl, E5.e.hb⟩
end Go.Proofs.Ytohoonbbjkefaaa
