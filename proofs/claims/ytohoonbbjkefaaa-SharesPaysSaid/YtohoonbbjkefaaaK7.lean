import Derived.Test.YtohoonbbjkefaaaK6
import Derived.Test.YtohoonbbjkefaaaF8
namespace Go.Proofs.Ytohoonbbjkefaaa
open Go.RowKit

theorem owns_nodes {W : World} {t : TypeId} {base : Nat} {A : Option Addr} {n c : Nat} {ps : List Node} (h : OwnsN W t base (.slice A n c) ps) : Nodes W W.heap.size A ps := by
  obtain ⟨A', c', e, _, hN⟩ := OwnsN.lay h
  cases e
  exact hN
theorem weights_is (A A2 : Option Addr) (c c2 : Nat) (ns ps : List Node) (node : Int) (hn : ns.length ≤ 1000) (hp : ps.length ≤ 1000) (w : World) (hN : Nodes w w.heap.size A ns) (hP : Nodes w w.heap.size A2 ps) (L : List Int) (hL : wtsV ns node ps = L) (r : Int) (hr : wtsR ns node ps = r) :
    Calls Try.prog 41 #[.agg #[.slice A ns.length c], .int .i64 node, .slice A2 ps.length c2] w fun e w' => ∃ Ao co, e = .returned (.tuple #[.slice Ao L.length co, .int .i64 r]) ∧ IntsAt w' w'.heap.size Ao L ∧ Below w.heap.size w w' := by
  rw [← hL, ← hr]; exact weights_ok A A2 c c2 ns ps node hn hp w hN hP
theorem refWeights_is (A A2 : Option Addr) (c c2 : Nat) (ns ps : List Node) (node : Int) (hA : A = none → c = 0 ∧ ns = []) (hn : ns.length ≤ 1000) (hp : ps.length ≤ 1000) (w : World) (hN : Nodes w w.heap.size A ns) (hP : Nodes w w.heap.size A2 ps) (L : List Int) (hL : wtsV ns node ps = L) (r : Int) (hr : wtsR ns node ps = r) :
    Calls Try.prog 42 #[.agg #[.slice A ns.length c], .int .i64 node, .slice A2 ps.length c2] w fun e w' => ∃ Ao co, e = .returned (.tuple #[.slice Ao L.length co, .int .i64 r]) ∧ IntsAt w' w'.heap.size Ao L ∧ Below w.heap.size w w' := by
  rw [← hL, ← hr]; exact refWeights_ok A A2 c c2 ns ps node hA hn hp w hN hP
theorem askPays_is (A A2 : Option Addr) (c c2 : Nat) (ns ps : List Node) (node : Int) (hn : ns.length ≤ 1000) (hp : ps.length ≤ 1000) (w : World) (hN : Nodes w w.heap.size A ns) (hP : Nodes w w.heap.size A2 ps) (n e : Int) (h : askS ns node ps = (n, e)) :
    Calls Try.prog 43 #[.agg #[.slice A ns.length c], .int .i64 node, .slice A2 ps.length c2] w fun x w' => x = .returned (.tuple #[.int .i64 n, .int .i64 e]) ∧ Below w.heap.size w w' := by
  have := ask_ok A A2 c c2 ns ps node hn hp w hN hP
  rw [h] at this
  exact this
theorem refAskPays_is (A A2 : Option Addr) (c c2 : Nat) (ns ps : List Node) (node : Int) (hA : A = none → c = 0 ∧ ns = []) (hn : ns.length ≤ 1000) (hp : ps.length ≤ 1000) (w : World) (hN : Nodes w w.heap.size A ns) (hP : Nodes w w.heap.size A2 ps) (n e : Int) (h : askS ns node ps = (n, e)) :
    Calls Try.prog 44 #[.agg #[.slice A ns.length c], .int .i64 node, .slice A2 ps.length c2] w fun x w' => x = .returned (.tuple #[.int .i64 n, .int .i64 e]) ∧ Below w.heap.size w w' := by
  have := refAsk_ok A A2 c c2 ns ps node hA hn hp w hN hP
  rw [h] at this
  exact this
theorem wrongL_len (ns ps : List Node) : (wrongL ns ps).length ≤ ps.length := by
  unfold wrongL
  split
  · exact wrongTo_len ns ps _
  · simp
theorem wtsV_len (ns : List Node) (node : Int) (ps : List Node) : (wtsV ns node ps).length ≤ 10 := by
  unfold wtsV
  split
  · exact wtsTo_len ns _ ps 10
  · simp
/-- The law's memory: the custom and its copy, the payments and theirs. -/
structure EnvQ (w : World) (A : Option Addr) (c : Nat) (ns : List Node) (t : Nat) (A' : Option Addr) (c' : Nat) (A2 B : Option Addr) (ps : List Node) (W : World) : Prop where
  f : EnvF w A c ns t A' c' W
  p : Nodes W W.heap.size A2 ps
  q : Nodes W W.heap.size B ps
theorem EnvQ.next {w : World} {A : Option Addr} {c : Nat} {ns : List Node} {t : Nat} {A' : Option Addr} {c' : Nat} {A2 B : Option Addr} {ps : List Node} {W W' : World} (h : EnvQ w A c ns t A' c' A2 B ps W) (hb : Below W.heap.size W W') : EnvQ w A c ns t A' c' A2 B ps W' :=
  ⟨h.f.next hb, Nodes.lt h.p hb, Nodes.lt h.q hb⟩

set_option maxRecDepth 100000 in
set_option maxHeartbeats 8000000 in
theorem old_law (A A2 : Option Addr) (c c2 : Nat) (ns ps : List Node) (hA : A = none → c = 0 ∧ ns = []) (hA2 : A2 = none → c2 = 0 ∧ ps = []) (hn : ns.length ≤ 9223372036854775807) (hp : ps.length ≤ 9223372036854775807) (node : Int) (w : World) (hN : Nodes w w.heap.size A ns) (hP : Nodes w w.heap.size A2 ps) :
    Calls Try.prog 10 #[.agg #[.slice A ns.length c], .int .i64 node, .slice A2 ps.length c2] w fun e w' => e = .returned (.bool true) ∧ Below w.heap.size w w' := by
  obtain ⟨W0, hW0⟩ : ∃ W0, w.alloc (.cells #[.slice A ns.length c] 24) = W0 := ⟨_, rfl⟩
  have E0 : Env w A c ns W0 := by rw [← hW0]; exact Env.new c hN
  have HP0 := Lib.hid (show Nodes W0 W0.heap.size A2 ps by rw [← hW0]; exact Nodes.alloc hP _)
  have q0 := E0.bC.cell
  clear hN hP
  by_cases h40 : 40 < ns.length
  · have HF := Lib.hid (far_big A ns.length c W0 hn true (by simpa using h40))
    go_enter Try.func10, Try.ntmps10
    go_wp2_with (first
      | (go_at_call 16; go_must (refine HF.out.mono ?_; rintro e w1 ⟨rfl, hb1⟩; have E1 := E0.next hb1))
      | (go_at_call 17; go_must (refine (works_any w1).mono ?_; rintro e w2 ⟨rfl, hb2⟩; have E2 := E1.next hb2)))
    go_ret
    exact ⟨rfl, E2.hb⟩
  · have HF := Lib.hid (far_big A ns.length c W0 hn false (by simpa using h40))
    by_cases hp4 : 40 < ps.length
    · go_enter Try.func10, Try.ntmps10
      go_wp2_with (first
        | (go_at_call 16; go_must (refine HF.out.mono ?_; rintro e w1 ⟨rfl, hb1⟩; have E1 := E0.next hb1))
        | (go_at_call 17; go_must (refine (works_any w1).mono ?_; rintro e w2 ⟨rfl, hb2⟩; have E2 := E1.next hb2)))
      go_ret
      exact ⟨rfl, E2.hb⟩
    · obtain ⟨L1, h1⟩ : ∃ L, wrongL ns ps = L := ⟨_, rfl⟩
      obtain ⟨r1, h2⟩ : ∃ r, wrongE ns ps = r := ⟨_, rfl⟩
      obtain ⟨L2, h3⟩ : ∃ L, wtsV ns node ps = L := ⟨_, rfl⟩
      obtain ⟨r2, h4⟩ : ∃ r, wtsR ns node ps = r := ⟨_, rfl⟩
      obtain ⟨n3, r3, h5⟩ : ∃ n e, askS ns node ps = (n, e) := ⟨_, _, rfl⟩
      have z1 : L1.length ≤ 1000 := by have := wrongL_len ns ps; rw [h1] at this; omega
      have z2 : L2.length ≤ 1000 := by have := wtsV_len ns node ps; rw [h3] at this; omega
      have H1 := Lib.hid h1
      have H2 := Lib.hid h2
      have H3 := Lib.hid h3
      have H4 := Lib.hid h4
      have H5 := Lib.hid h5
      have HA := Lib.hid hA
      have HA2 := Lib.hid hA2
      have hn4 : ns.length ≤ 1000 := by omega
      have hp40 : ps.length ≤ 1000 := by omega
      clear h1 h2 h3 h4 h5 hA hA2
      go_enter Try.func10, Try.ntmps10
      go_wp2_with (first
        | (go_at_call 16; go_must (refine HF.out.mono ?_; rintro e w1 ⟨rfl, hb1⟩; have E1 := E0.next hb1; have a1 := E1.bC.cell; have P1 := Nodes.lt HP0.out hb1))
        | (go_at_call 18; go_must (refine (copy_is A c ns HA.out hn4 w1 E1.hN).mono ?_; rintro e w2 ⟨A', c', rfl, hA', hN', _, hb2⟩; have E2 := E1.next hb2; have P2 := Nodes.lt P1 hb2; have HA' := Lib.hid hA'; clear hA'))
        | (go_at_call 38; go_must (refine (paid_is A2 c2 ps HA2.out hp40 w2 P2).mono ?_; rintro e w3 ⟨B, d, rfl, hB, hO, hb3⟩; have Q3 : EnvQ w A c ns w3.heap.size A' c' A2 B ps (w3.alloc (.cells #[.slice A' ns.length c'] 24)) := ⟨⟨(E2.next hb3).alloc _, Boxed.new _ _ _, Nodes.alloc (Nodes.lt hN' hb3) _⟩, Nodes.alloc (Nodes.lt P2 hb3) _, Nodes.alloc (owns_nodes hO) _⟩; have a3 := Q3.f.b.cell; have HB := Lib.hid hB; clear hB hO))
        | (go_at_call 39; go_must (refine (wrong_all A' B c' d ns ps hn4 hp40 _ Q3.f.hN Q3.q _ H1.out _ H2.out).mono ?_; rintro e w4 ⟨B1, d1, rfl, i1, hb4⟩; have Q4 := Q3.next hb4; have a4 := Q4.f.e.bC.cell))
        | (go_at_call 40; go_must (refine (refWrong_all A A2 c c2 ns ps hn4 hp40 _ Q4.f.e.hN Q4.p _ H1.out _ H2.out).mono ?_; rintro e w5 ⟨B2, d2, rfl, i2, hb5⟩; have Q5 := Q4.next hb5; have a5 := Q5.f.b.cell; have i1a := ilt i1 hb5))
        | (go_at_call 41; go_must (refine (weights_is A' B c' d ns ps node hn4 hp40 _ Q5.f.hN Q5.q _ H3.out _ H4.out).mono ?_; rintro e w6 ⟨B3, d3, rfl, i3, hb6⟩; have Q6 := Q5.next hb6; have a6 := Q6.f.e.bC.cell; have i1b := ilt i1a hb6; have i2b := ilt i2 hb6))
        | (go_at_call 42; go_must (refine (refWeights_is A A2 c c2 ns ps node HA.out hn4 hp40 _ Q6.f.e.hN Q6.p _ H3.out _ H4.out).mono ?_; rintro e w7 ⟨B4, d4, rfl, i4, hb7⟩; have Q7 := Q6.next hb7; have a7 := Q7.f.b.cell; have i1c := ilt i1b hb7; have i2c := ilt i2b hb7; have i3c := ilt i3 hb7))
        | (go_at_call 43; go_must (refine (askPays_is A' B c' d ns ps node hn4 hp40 _ Q7.f.hN Q7.q _ _ H5.out).mono ?_; rintro e w8 ⟨rfl, hb8⟩; have Q8 := Q7.next hb8; have a8 := Q8.f.e.bC.cell; have i1d := ilt i1c hb8; have i2d := ilt i2c hb8; have i3d := ilt i3c hb8; have i4d := ilt i4 hb8))
        | (go_at_call 44; go_must (refine (refAskPays_is A A2 c c2 ns ps node HA.out hn4 hp40 _ Q8.f.e.hN Q8.p _ _ H5.out).mono ?_; rintro e w9 ⟨rfl, hb9⟩; have Q9 := Q8.next hb9; have i1e := ilt i1d hb9; have i2e := ilt i2d hb9; have i3e := ilt i3d hb9; have i4e := ilt i4d hb9))
        | (go_at_call 37; refine (sameInts_is _ _ _ _ L2 z2 _ i3f i4f).mono ?_; rintro e w11 ⟨rfl, hb11⟩; have Q11 := Q10.next hb11; have a11 := Q11.f.b.cell; have b11 := Q11.f.e.bC.cell)
        | (go_at_call 37; go_must (refine (sameInts_is _ _ _ _ L1 z1 _ i1e i2e).mono ?_; rintro e w10 ⟨rfl, hb10⟩; have Q10 := Q9.next hb10; have i3f := ilt i3e hb10; have i4f := ilt i4e hb10))
        | (go_at_call 25; go_must (refine (same_is A' A c' c ns hn4 _ Q11.f.hN Q11.f.e.hN).mono ?_; rintro e w12 ⟨rfl, hb12⟩; have Q12 := Q11.next hb12))
        | (go_at_call 45; go_must (refine (samePays_is B A2 d c2 ps hp40 _ Q12.q Q12.p).mono ?_; rintro e w13 ⟨rfl, hb13⟩; have Q13 := Q12.next hb13))
        | (go_at_call 17; go_must (refine (works_any _).mono ?_; rintro e w14 ⟨rfl, hb14⟩; have Q14 := Q13.next hb14)))
      go_ret
      exact ⟨rfl, Q14.f.e.hb⟩
end Go.Proofs.Ytohoonbbjkefaaa
