import Derived.Test.YtohoonbbjkefaaaH3
namespace Go.Proofs.Ytohoonbbjkefaaa
open Go.RowKit

theorem ints_made (w : World) (n₀ : Nat) (hn : n₀ ≤ w.heap.size) : Ints (w.alloc (.cells #[] 3)) n₀ (.slice (some ⟨w.heap.size, 0, none⟩) 0 0) [] :=
  World.ownsRow_made w #[] 0 hn (by unfold maxLen; omega) rfl
/-- 'append([]int{}, xs...)'. -/
theorem wpl_copyI {ops : Array Oper} {rest : List Oper} {o : Oper} {a : Act} {w : World} {Q : Exit → Act → World → Prop} (hgd : o.guard = none) (s x : Operand)
    (ho : o.op = .call { callee := .builtin .append, args := #[s, x], argTypes := #[40, 40] }) (n₀ : Nat) (v : Value) (hs : a.eval s = v) (hown : Ints w n₀ v [])
    (A : Option Addr) (c : Nat) (l : List Int) (hA : A = none → c = 0 ∧ l = []) (hx : a.eval x = .slice A l.length c) (hI : IntsAt w w.heap.size A l) (hl : l.length ≤ 1000) (hn : n₀ ≤ w.heap.size)
    (h : ∀ v' w', Ints w' n₀ v' l → Below n₀ w w' → wpList Try.prog ops Q rest (a.put o.dst v') w') : wpList Try.prog ops Q (o :: rest) a w := by
  obtain ⟨i0, hi, hz0, hz1, hz2⟩ := info_parts info3
  cases A with
  | none =>
    obtain ⟨rfl, rfl⟩ := hA rfl
    exact wpList_append_own_none hgd s x 40 ho n₀ 3 i0 1 Try.underlying40 hi v 0 [] hs hown hx (h v w hown (Below.refl _ _))
  | some ad =>
    refine wpList_append_own w hgd s x 40 ho n₀ 3 i0 (.int .i64 0) 1 8 Try.underlying40 hi hz0 hz1 hz2 rfl (by decide) v 0 [] hs hown ad l.length c (l.map (.int .i64)) hx (by simp) ?_ ?_ ?_ ?_ hn ?_
    · intro j u hj
      rcases hI with rfl | ⟨b, off, e, _, hc⟩
      · simp at hj
      · cases e
        rw [List.getElem?_map] at hj
        cases hx : l[j]? with
        | none => rw [hx] at hj; simp at hj
        | some y =>
          rw [hx] at hj
          simp at hj
          subst hj
          rw [addr_add]
          exact hc j y hx
    · intro u hu
      obtain ⟨y, _, rfl⟩ := List.mem_map.1 hu
      rfl
    · unfold maxLen; omega
    · omega
    · intro v' w' h2 h3 _
      refine h v' w' ?_ (own_below hown h3 hn (Nat.le_refl _))
      unfold Ints
      simpa using h2
theorem enough_is (A Al : Option Addr) (c cl : Nat) (ns : List Node) (l : List Int) (hn : ns.length ≤ 1000) (hl : l.length ≤ 1000) (w : World) (hN : Nodes w w.heap.size A ns) (hI : IntsAt w w.heap.size Al l) (n e : Int) (h : enoughS ns l = (n, e)) :
    Calls Try.prog 53 #[.agg #[.slice A ns.length c], .slice Al l.length cl] w fun x w' => x = .returned (.tuple #[.int .i64 n, .int .i64 e]) ∧ Below w.heap.size w w' := by
  have := enough_any A Al c cl ns l hn hl w hN hI
  rw [h] at this
  exact this
theorem refEnough_is (A Al : Option Addr) (c cl : Nat) (ns : List Node) (l : List Int) (hn : ns.length ≤ 1000) (hl : l.length ≤ 1000) (w : World) (hN : Nodes w w.heap.size A ns) (hI : IntsAt w w.heap.size Al l) (n e : Int) (h : enoughS ns l = (n, e)) :
    Calls Try.prog 54 #[.agg #[.slice A ns.length c], .slice Al l.length cl] w fun x w' => x = .returned (.tuple #[.int .i64 n, .int .i64 e]) ∧ Below w.heap.size w w' := by
  have := refEnough_any A Al c cl ns l hn hl w hN hI
  rw [h] at this
  exact this

set_option maxRecDepth 100000 in
set_option maxHeartbeats 4000000 in
theorem enough_law (A Al : Option Addr) (c cl : Nat) (ns : List Node) (l : List Int) (hA : A = none → c = 0 ∧ ns = []) (hAl : Al = none → cl = 0 ∧ l = []) (hn : ns.length ≤ 9223372036854775807) (hl : l.length ≤ 9223372036854775807) (w : World) (hN : Nodes w w.heap.size A ns) (hI : IntsAt w w.heap.size Al l) :
    Calls Try.prog 12 #[.agg #[.slice A ns.length c], .slice Al l.length cl] w fun e w' => e = .returned (.bool true) ∧ Below w.heap.size w w' := by
  obtain ⟨W0, hW0⟩ : ∃ W0, w.alloc (.cells #[.slice A ns.length c] 24) = W0 := ⟨_, rfl⟩
  have E0 : Env w A c ns W0 := by rw [← hW0]; exact Env.new c hN
  have I0 : IntsAt W0 W0.heap.size Al l := by rw [← hW0]; exact ilt hI ((Below.refl _ w).alloc (Nat.le_refl _) _)
  have q0 := E0.bC.cell
  have I0H := Lib.hid I0
  clear hN hI I0
  by_cases h40 : 40 < ns.length
  · have HF := Lib.hid (far_big A ns.length c W0 hn true (by simpa using h40))
    go_enter Try.func12, Try.ntmps12
    go_wp2_with (first
      | (go_at_call 16; go_must (refine HF.out.mono ?_; rintro e w1 ⟨rfl, hb1⟩; have E1 := E0.next hb1))
      | (go_at_call 17; go_must (refine (works_any w1).mono ?_; rintro e w2 ⟨rfl, hb2⟩; have E2 := E1.next hb2)))
    go_ret
    exact ⟨rfl, E2.hb⟩
  · have HF := Lib.hid (far_big A ns.length c W0 hn false (by simpa using h40))
    by_cases hl4 : 40 < l.length
    · go_enter Try.func12, Try.ntmps12
      go_wp2_with (first
        | (go_at_call 16; go_must (refine HF.out.mono ?_; rintro e w1 ⟨rfl, hb1⟩; have E1 := E0.next hb1))
        | (go_at_call 17; go_must (refine (works_any w1).mono ?_; rintro e w2 ⟨rfl, hb2⟩; have E2 := E1.next hb2)))
      go_ret
      exact ⟨rfl, E2.hb⟩
    · obtain ⟨n1, e1, h1⟩ : ∃ n e, enoughS ns l = (n, e) := ⟨_, _, rfl⟩
      have H1 := Lib.hid h1
      have HA := Lib.hid hA
      have HAl := Lib.hid hAl
      have hn4 : ns.length ≤ 1000 := by omega
      have hl40 : l.length ≤ 1000 := by omega
      clear h1 hA hAl
      go_enter Try.func12, Try.ntmps12
      go_wp2_with (first
        | (go_at_call 16; go_must (refine HF.out.mono ?_; rintro e w1 ⟨rfl, hb1⟩; have E1 := E0.next hb1; have a1 := E1.bC.cell; have I1 := ilt I0H.out hb1))
        | (go_at_call 18; go_must (refine (copy_is A c ns HA.out hn4 w1 E1.hN).mono ?_; rintro e w2 ⟨A', c', rfl, hA', hN', _, hb2⟩; have I2 := ilt (ilt I1 hb2) ((Below.refl _ w2).alloc (Nat.le_refl _) (.cells #[] 3)); have ow := ints_made w2 w2.heap.size (Nat.le_refl _)))
        | (at_builtin; go_must (refine wpl_copyI rfl _ _ rfl w2.heap.size _ rfl ow Al cl l HAl.out rfl I2 hl40 (by simp) ?_; intro v' w3 hown hb3; obtain ⟨B, d, rfl, hB, hI3⟩ := Ints.lay hown; have hb23 := ((Below.refl _ w2).alloc (Nat.le_refl _) (.cells #[] 3)).trans hb3; have F3 : EnvF w A c ns w3.heap.size A' c' (w3.alloc (.cells #[.slice A' ns.length c'] 24)) := ⟨((E1.next hb2).next hb23).alloc _, Boxed.new _ _ _, Nodes.alloc (Nodes.lt hN' hb23) _⟩; have a3 := F3.b.cell; have J3 := ilt hI3 ((Below.refl _ w3).alloc (Nat.le_refl _) (.cells #[.slice A' ns.length c'] 24)); have K3 := ilt (ilt (ilt I1 hb2) hb23) ((Below.refl _ w3).alloc (Nat.le_refl _) (.cells #[.slice A' ns.length c'] 24))))
        | (go_at_call 53; go_must (refine (enough_is A' B c' d ns l hn4 hl40 _ F3.hN J3 _ _ H1.out).mono ?_; rintro e w4 ⟨rfl, hb4⟩; have F4 := F3.next hb4; have a4 := F4.e.bC.cell; have J4 := ilt J3 hb4; have K4 := ilt K3 hb4))
        | (go_at_call 54; go_must (refine (refEnough_is A Al c cl ns l hn4 hl40 _ F4.e.hN K4 _ _ H1.out).mono ?_; rintro e w5 ⟨rfl, hb5⟩; have F5 := F4.next hb5; have a5 := F5.e.bC.cell; have b5 := F5.b.cell; have J5 := ilt J4 hb5; have K5 := ilt K4 hb5))
        | (go_at_call 25; go_must (refine (same_is A' A c' c ns hn4 _ F5.hN F5.e.hN).mono ?_; rintro e w6 ⟨rfl, hb6⟩; have F6 := F5.next hb6; have J6 := ilt J5 hb6; have K6 := ilt K5 hb6))
        | (go_at_call 37; go_must (refine (sameInts_is B Al d cl l hl40 _ J6 K6).mono ?_; rintro e w7 ⟨rfl, hb7⟩; have F7 := F6.next hb7))
        | (go_at_call 17; go_must (refine (works_any _).mono ?_; rintro e w8 ⟨rfl, hb8⟩; have F8 := F7.next hb8)))
      go_ret
      exact ⟨rfl, F8.e.hb⟩
end Go.Proofs.Ytohoonbbjkefaaa
