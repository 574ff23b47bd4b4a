import Derived.Test.YtmbcpmnigggbaaaShB12
import Derived.Test.YtmbcpmnigggbaaaShE1
namespace Go.Proofs.Ytmbcpmnigggbaaa.Sh
open Go.RowKit

set_option maxRecDepth 100000 in
set_option maxHeartbeats 1000000 in
theorem sameInts_is (A1 A2 : Option Addr) (c1 c2 : Nat) (l : List Int) (hl : l.length ≤ 1000) (w : World) (h1 : IntsAt w w.heap.size A1 l) (h2 : IntsAt w w.heap.size A2 l) :
    Calls Try.prog 44 #[.slice A1 l.length c1, .slice A2 l.length c2] w fun e w' => e = .returned (.bool true) ∧ Below w.heap.size w w' := by
  have H1 := Lib.hid h1
  have H2 := Lib.hid h2
  clear h1 h2
  go_enter Try.func44, Try.ntmps44
  go_wp2
  go_loopw [5] (fun i wr => ∃ k : Nat, k ≤ l.length ∧ i = .int .i64 k ∧ Below w.heap.size w wr) (fun i _ => l.length - (intOf i).toNat)
  case atStart => exact ⟨0, Nat.zero_le _, rfl, Below.refl _ _⟩
  case round =>
    obtain ⟨k, hk, rfl, hb⟩ := hrel
    by_cases hlt : k < l.length
    · obtain ⟨x, hx⟩ : ∃ x, l[k]? = some x := ⟨_, List.getElem?_eq_getElem hlt⟩
      obtain ⟨b1, o1, rfl, _, d1⟩ := IntsAt.at_ (ilt H1.out hb) hx
      obtain ⟨b2, o2, rfl, _, d2⟩ := IntsAt.at_ (ilt H2.out hb) hx
      have e1 := extB_cell d1
      have e2 := extB_cell d2
      clear hx
      go_wp2
      refine wp_region_ext (by kernel_rfl) (by kernel_rfl) ?_
      repeat (go_big_quiet_step (fail))
      refine wpQuiet_nil ?_
      rintro _ ⟨x1, rfl⟩
      have hb1 := hb.trans ((extB_below wr x1).mono hb.size)
      go_wp2
      go_roundw
      case rel => exact ⟨k + 1, by omega, by go_num, hb1⟩
      case measure => simp [intOf]; omega
    · obtain rfl : k = l.length := by omega
      go_wp2
      go_ret
      exact ⟨rfl, hb⟩
open Go.RowKit

def exC : List Node := [⟨-1, 0, 0⟩, ⟨0, 0, 3⟩, ⟨0, 1, 0⟩, ⟨0, 1, 0⟩, ⟨2, 2, 0⟩, ⟨2, 1, 0⟩, ⟨3, 1, 2⟩, ⟨3, 4, 0⟩]
def exD : List Node := [⟨-1, 0, 0⟩, ⟨0, 1, 0⟩, ⟨0, 1, 0⟩, ⟨0, 4, 0⟩, ⟨0, 4, 0⟩]
theorem nodes_lay {W : World} {g : Nat} {t : TypeId} {cells : Array Value} {ns : List Node} (h : W.heap[g]? = some (.cells cells t (0, 0))) (hc : cells = (nodeCells ns).toArray) : Nodes W W.heap.size (some ⟨g, 0, none⟩) ns := by
  refine .inr ⟨g, 0, rfl, (Array.getElem?_eq_some_iff.1 h).1, fun i x hx => ?_⟩
  obtain ⟨d1, d2, d3⟩ := nodeCells_at ns i x hx
  have hk : ∀ j v, (nodeCells ns)[j]? = some v → W.cell? ⟨g, j, none⟩ = some v := fun j v hj => by
    simp [World.cell?, h, hc, hj]
  rw [Nat.zero_add]
  exact ⟨hk _ _ d1, hk _ _ d2, hk _ _ d3⟩
set_option maxRecDepth 100000 in
set_option maxHeartbeats 4000000 in
theorem example_any (w : World) : Calls Try.prog 97 #[] w fun e w' => ∃ g h, e = .returned (.tuple #[.agg #[.slice (some ⟨g, 0, none⟩) 8 8], .agg #[.slice (some ⟨h, 0, none⟩) 5 5]]) ∧ Nodes w' w'.heap.size (some ⟨g, 0, none⟩) exC ∧ Nodes w' w'.heap.size (some ⟨h, 0, none⟩) exD ∧ Below w.heap.size w w' := by
  go_enter Try.func97, Try.ntmps97
  go_wp2
  go_region
  go_wp2
  have h1 := (World.alloc_heap_new ((w.alloc (.cells #[.slice (some ⟨w.heap.size + 1 + 1, 0, none⟩) 8 8] 76)).alloc (.cells #[.slice (some ⟨w.heap.size + 1 + 1 + 1, 0, none⟩) 5 5] 76)) (.cells (nodeCells exC).toArray 158))
  have h2 := World.alloc_heap_new (((w.alloc (.cells #[.slice (some ⟨w.heap.size + 1 + 1, 0, none⟩) 8 8] 76)).alloc (.cells #[.slice (some ⟨w.heap.size + 1 + 1 + 1, 0, none⟩) 5 5] 76)).alloc (.cells (nodeCells exC).toArray 158)) (.cells (nodeCells exD).toArray 158)
  have h3 := (Below.heap_alloc _ (.cells (nodeCells exD).toArray 158) _ (Array.getElem?_eq_some_iff.1 h1).1).trans h1
  simp only [World.size_alloc] at h2 h3
  have hb : Below w.heap.size w ((((w.alloc (.cells #[.slice (some ⟨w.heap.size + 1 + 1, 0, none⟩) 8 8] 76)).alloc (.cells #[.slice (some ⟨w.heap.size + 1 + 1 + 1, 0, none⟩) 5 5] 76)).alloc (.cells (nodeCells exC).toArray 158)).alloc (.cells (nodeCells exD).toArray 158)) := ((((Below.refl _ w).alloc (Nat.le_refl _) _).alloc (by simp) _).alloc (by simp; omega) _).alloc (by simp; omega) _
  refine bodyPost_ret (v := .tuple #[.agg #[.slice (some ⟨w.heap.size + 1 + 1, 0, none⟩) 8 8], .agg #[.slice (some ⟨w.heap.size + 1 + 1 + 1, 0, none⟩) 5 5]]) (by simp [results, Try.results97, go_sem]) rfl ⟨w.heap.size + 1 + 1, w.heap.size + 1 + 1 + 1, rfl, nodes_lay h3 rfl, nodes_lay h2 rfl, hb.drew⟩
open Go.RowKit
theorem exKeeps0 : penceE exC 42 = 0 := by kernel_rfl
theorem exKeeps : keptsS exC 42 = [0, 3, 0, 0, 14, 6, 6, 13] := by kernel_rfl
theorem exFrom : fromS exC 7 13 = (41, 0) := by kernel_rfl
theorem exFalls : fallsS exD 2 = (2, 0) := by kernel_rfl
theorem exExact : exactS exC 7 = ((2, 5), 0) := by kernel_rfl
theorem exWeights : wtsV exC 5 [⟨42, 5, 6⟩] = [1] := by kernel_rfl
theorem exWeights0 : wtsR exC 5 [⟨42, 5, 6⟩] = 0 := by kernel_rfl
theorem exAsk : askS exC 5 [] = (68, 0) := by kernel_rfl

theorem exK (g : Nat) (W : World) (hN : Nodes W W.heap.size (some ⟨g, 0, none⟩) exC) : Calls Try.prog 43 #[.agg #[.slice (some ⟨g, 0, none⟩) 8 8], .int .i64 42] W fun e w' =>
    ∃ b, e = .returned (.tuple #[.slice (some ⟨b, 0, none⟩) 8 8, .int .i64 0]) ∧ Row w' b [0, 3, 0, 0, 14, 6, 6, 13] ∧ Below W.heap.size W w' := by
  have h := keepsAll_ok (some ⟨g, 0, none⟩) 8 exC 42 (by decide) W hN exKeeps0
  rw [exKeeps] at h
  exact h.mono fun e w' ⟨b, he, _, hr, hb⟩ => ⟨b, he, hr, hb⟩
theorem exF (g : Nat) (W : World) (hN : Nodes W W.heap.size (some ⟨g, 0, none⟩) exC) : Calls Try.prog 98 #[.agg #[.slice (some ⟨g, 0, none⟩) 8 8], .int .i64 7, .int .i64 13] W fun e w' =>
    e = .returned (.tuple #[.int .i64 41, .int .i64 0]) ∧ Below W.heap.size W w' := by
  have h := from_any (some ⟨g, 0, none⟩) 8 exC 7 13 (by decide) W hN
  rw [exFrom] at h
  exact h
theorem exL (g : Nat) (W : World) (hN : Nodes W W.heap.size (some ⟨g, 0, none⟩) exD) : Calls Try.prog 99 #[.agg #[.slice (some ⟨g, 0, none⟩) 5 5], .int .i64 2] W fun e w' =>
    e = .returned (.tuple #[.int .i64 2, .int .i64 0]) ∧ Below W.heap.size W w' := by
  have h := falls_any (some ⟨g, 0, none⟩) 5 exD 2 (by decide) W hN
  rw [exFalls] at h
  exact h
theorem exX (g : Nat) (W : World) (hN : Nodes W W.heap.size (some ⟨g, 0, none⟩) exC) : Calls Try.prog 100 #[.agg #[.slice (some ⟨g, 0, none⟩) 8 8], .int .i64 7] W fun e w' =>
    e = .returned (.tuple #[.agg #[.int .i64 2, .int .i64 5], .int .i64 0]) ∧ Below W.heap.size W w' := by
  have h := exact_any (some ⟨g, 0, none⟩) 8 exC 7 (by decide) W hN
  rw [exExact] at h
  exact h
theorem exW (g p : Nat) (W : World) (hN : Nodes W W.heap.size (some ⟨g, 0, none⟩) exC) (hP : Nodes W W.heap.size (some ⟨p, 0, none⟩) [⟨42, 5, 6⟩]) : Calls Try.prog 101 #[.agg #[.slice (some ⟨g, 0, none⟩) 8 8], .int .i64 5, .slice (some ⟨p, 0, none⟩) 1 1] W fun e w' =>
    ∃ Ao co, e = .returned (.tuple #[.slice Ao 1 co, .int .i64 0]) ∧ IntsAt w' w'.heap.size Ao [1] ∧ Below W.heap.size W w' := by
  have h := weights_ok (some ⟨g, 0, none⟩) (some ⟨p, 0, none⟩) 8 1 exC [⟨42, 5, 6⟩] 5 (by decide) (by decide) W hN hP
  rw [exWeights, exWeights0] at h
  exact h
theorem exA (g : Nat) (W : World) (hN : Nodes W W.heap.size (some ⟨g, 0, none⟩) exC) : Calls Try.prog 102 #[.agg #[.slice (some ⟨g, 0, none⟩) 8 8], .int .i64 5, .slice none 0 0] W fun e w' =>
    e = .returned (.tuple #[.int .i64 68, .int .i64 0]) ∧ Below W.heap.size W w' := by
  have h := ask_ok (some ⟨g, 0, none⟩) none 8 0 exC [] 5 (by decide) (by decide) W hN nodes_nil
  rw [exAsk] at h
  exact h
theorem exS8 (Ao : Option Addr) (co p : Nat) (W : World) (h1 : IntsAt W W.heap.size Ao [0, 3, 0, 0, 14, 6, 6, 13]) (h2 : IntsAt W W.heap.size (some ⟨p, 0, none⟩) [0, 3, 0, 0, 14, 6, 6, 13]) :
    Calls Try.prog 44 #[.slice Ao 8 co, .slice (some ⟨p, 0, none⟩) 8 8] W fun e w' => e = .returned (.bool true) ∧ Below W.heap.size W w' :=
  sameInts_is Ao (some ⟨p, 0, none⟩) co 8 [0, 3, 0, 0, 14, 6, 6, 13] (by decide) W h1 h2
theorem exS1 (Ao : Option Addr) (co p : Nat) (W : World) (h1 : IntsAt W W.heap.size Ao [1]) (h2 : IntsAt W W.heap.size (some ⟨p, 0, none⟩) [1]) :
    Calls Try.prog 44 #[.slice Ao 1 co, .slice (some ⟨p, 0, none⟩) 1 1] W fun e w' => e = .returned (.bool true) ∧ Below W.heap.size W w' :=
  sameInts_is Ao (some ⟨p, 0, none⟩) co 1 [1] (by decide) W h1 h2
theorem row_lay {W : World} {g : Nat} {cells : Array Value} {l : List Int} (h : W.heap[g]? = some (.cells cells 3 (0, 0))) (hc : cells = cellsOf l) : Row W g l := by subst hc; exact h

theorem new8 (W : World) : IntsAt (W.alloc (.cells #[.int .i64 0, .int .i64 3, .int .i64 0, .int .i64 0, .int .i64 14, .int .i64 6, .int .i64 6, .int .i64 13] 3)) (W.alloc (.cells #[.int .i64 0, .int .i64 3, .int .i64 0, .int .i64 0, .int .i64 14, .int .i64 6, .int .i64 6, .int .i64 13] 3)).heap.size (some ⟨W.heap.size, 0, none⟩) [0, 3, 0, 0, 14, 6, 6, 13] := row_ints (row_lay (World.alloc_heap_new W _) rfl)
theorem new1 (W : World) : IntsAt (W.alloc (.cells #[.int .i64 1] 3)) (W.alloc (.cells #[.int .i64 1] 3)).heap.size (some ⟨W.heap.size, 0, none⟩) [1] := row_ints (row_lay (World.alloc_heap_new W _) rfl)
theorem below4 {a b c d e : World} (h1 : Below a.heap.size a b) (h2 : Below b.heap.size b c) (h3 : Below c.heap.size c d) (h4 : Below d.heap.size d e) : Below a.heap.size a e :=
  hb0to h1 (hb0to h2 (hb0to h3 h4))
set_option maxRecDepth 100000 in
theorem eq33 (x y : Int) (w : World) : (binOp .eql 143 (.agg #[.int .i64 x, .int .i64 y]) (.agg #[.int .i64 x, .int .i64 y])).run Try.prog w = .ok (.bool true) w := by
  simp [go_sem]
set_option maxRecDepth 100000 in
set_option maxHeartbeats 4000000 in
theorem works_any (w : World) : Calls Try.prog 38 #[] w fun e w' => e = .returned (.bool true) ∧ Below w.heap.size w w' := by
  have hq := eq33 2 5
  go_enter Try.func38, Try.ntmps38
  go_wp2_with (first
    | (go_at_call 97; go_must (refine (example_any _).mono ?_; rintro e w1 ⟨g, h, rfl, hC1, hD1, hb1⟩; have hC2 := Nodes.alloc (Nodes.alloc hC1 (.cells #[.slice (some ⟨g, 0, none⟩) 8 8] 76)) (.cells #[.slice (some ⟨h, 0, none⟩) 5 5] 76); have hD2 := Nodes.alloc (Nodes.alloc hD1 (.cells #[.slice (some ⟨g, 0, none⟩) 8 8] 76)) (.cells #[.slice (some ⟨h, 0, none⟩) 5 5] 76); have bC := (Boxed.new w1 76 (.slice (some ⟨g, 0, none⟩) 8 8)).alloc (.cells #[.slice (some ⟨h, 0, none⟩) 5 5] 76); have bD := Boxed.new (w1.alloc (.cells #[.slice (some ⟨g, 0, none⟩) 8 8] 76)) 76 (.slice (some ⟨h, 0, none⟩) 5 5)))
    | (go_at_call 43; go_must (refine (exK g _ hC2).mono ?_; rintro e w2 ⟨kb, rfl, hr2, hb2⟩; have hC3 := Nodes.lt hC2 hb2; have hD3 := Nodes.lt hD2 hb2; have bC3 := boxed_ext hb2 bC; have bD3 := boxed_ext hb2 bD; have m1 := bC3.cell))
    | (go_at_call 98; go_must (refine (exF g w2 hC3).mono ?_; rintro e w3 ⟨rfl, hb3⟩; have hC4 := Nodes.lt hC3 hb3; have hD4 := Nodes.lt hD3 hb3; have bC4 := boxed_ext hb3 bC3; have bD4 := boxed_ext hb3 bD3; have m2 := bD4.cell; rw [World.size_alloc] at m2))
    | (go_at_call 99; go_must (refine (exL h w3 hD4).mono ?_; rintro e w4 ⟨rfl, hb4⟩; have hC5 := Nodes.lt hC4 hb4; have bC5 := boxed_ext hb4 bC4; have m3 := bC5.cell))
    | (go_at_call 100; go_must (refine (exX g w4 hC5).mono ?_; rintro e w5 ⟨rfl, hb5⟩; have bC6 := (boxed_ext hb5 bC5).alloc (.cells #[.int .i64 2, .int .i64 5] 143); have m4 := bC6.cell; have hC6 := Nodes.alloc (Nodes.alloc (Nodes.lt hC5 hb5) (.cells #[.int .i64 2, .int .i64 5] 143)) (.cells #[.int .i64 42, .int .i64 5, .int .i64 6] 148); have hP6 : Nodes ((w5.alloc (.cells #[.int .i64 2, .int .i64 5] 143)).alloc (.cells #[.int .i64 42, .int .i64 5, .int .i64 6] 148)) ((w5.alloc (.cells #[.int .i64 2, .int .i64 5] 143)).alloc (.cells #[.int .i64 42, .int .i64 5, .int .i64 6] 148)).heap.size (some ⟨(w5.alloc (.cells #[.int .i64 2, .int .i64 5] 143)).heap.size, 0, none⟩) [⟨42, 5, 6⟩] := nodes_lay (World.alloc_heap_new (w5.alloc (.cells #[.int .i64 2, .int .i64 5] 143)) (.cells #[.int .i64 42, .int .i64 5, .int .i64 6] 148)) rfl; have t6 : Two (w5.alloc (.cells #[.int .i64 2, .int .i64 5] 143)) w5.heap.size 2 5 := World.alloc_heap_new w5 _; rw [World.size_alloc w5] at hP6))
    | (go_at_call 101; go_must (refine (exW g _ _ hC6 hP6).mono ?_; rintro e w6 ⟨Aw, cw, rfl, hIw, hb6⟩; have hb6' := ((Below.refl _ (w5.alloc (.cells #[.int .i64 2, .int .i64 5] 143))).alloc (Nat.le_refl _) (.cells #[.int .i64 42, .int .i64 5, .int .i64 6] 148)).trans (hb6.mono (by simp)); have bC7 := boxed_ext hb6' bC6; have m5 := bC7.cell; have hC7 := Nodes.lt hC6 hb6))
    | (go_at_call 102; go_must (refine (exA g w6 hC7).mono ?_; rintro e w7 ⟨rfl, hb7⟩; have hb67 := hb6'.trans (hb7.mono hb6'.size); have hb57 := ((Below.refl _ w5).alloc (Nat.le_refl _) (.cells #[.int .i64 2, .int .i64 5] 143)).trans (hb67.mono (by simp)); have hb27 := below4 hb3 hb4 hb5 hb57; have hI7 := ilt (ilt (row_ints hr2) hb27) ((Below.refl _ w7).alloc (Nat.le_refl _) (.cells #[.int .i64 0, .int .i64 3, .int .i64 0, .int .i64 0, .int .i64 14, .int .i64 6, .int .i64 6, .int .i64 13] 3)); have hJ7 := new8 w7; have hw7 := ilt (ilt hIw hb7) ((Below.refl _ w7).alloc (Nat.le_refl _) (.cells #[.int .i64 0, .int .i64 3, .int .i64 0, .int .i64 0, .int .i64 14, .int .i64 6, .int .i64 6, .int .i64 13] 3)); have t7 := (Two.below (Two.below t6 hb67 (Two.lt t6)) ((Below.refl _ w7).alloc (Nat.le_refl _) (.cells #[.int .i64 0, .int .i64 3, .int .i64 0, .int .i64 0, .int .i64 14, .int .i64 6, .int .i64 6, .int .i64 13] 3)) (Nat.lt_of_lt_of_le (Two.lt t6) hb67.size))))
    | (go_at_call 44; refine (exS1 _ _ _ _ hw9 hJ9).mono ?_; rintro e w10 ⟨rfl, hb10⟩)
    | (go_at_call 44; refine (exS8 _ _ _ _ hI7 hJ7).mono ?_; rintro e w9 ⟨rfl, hb9⟩; have t9 := Two.below t7 hb9 (Two.lt t7); have q0 := t9.c0; have q1 := t9.c1; have hw9 := ilt (ilt hw7 hb9) ((Below.refl _ w9).alloc (Nat.le_refl _) (.cells #[.int .i64 1] 3)); have hJ9 := new1 w9))
  go_ret
  refine ⟨rfl, ?_⟩
  have k1 := hb0to ((hb1.alloc hb1.size (.cells #[.slice (some ⟨g, 0, none⟩) 8 8] 76)).alloc (by have := hb1.size; simp; omega) (.cells #[.slice (some ⟨h, 0, none⟩) 5 5] 76)) hb2
  have k2 := hb0to k1 hb27
  have k3 := hb0to (k2.alloc k2.size _) hb9
  exact hb0to (k3.alloc k3.size _) hb10
open Go.RowKit

theorem within1_is (n lo hi : Int) (w : World) (b : Bool) (hb : inR n lo hi = b) : Calls Try.prog 28 #[.int .i64 n, .int .i64 lo, .int .i64 hi] w fun e w' => e = .returned (.bool b) ∧ w = w' := by
  rw [← hb]; exact refWithin_any n lo hi w
end Go.Proofs.Ytmbcpmnigggbaaa.Sh
namespace Go.Proofs.Ytmbcpmnigggbaaa.Sh
/-! One penny more. -/
theorem lFix_zero (l : List Node) (hf : ∀ x ∈ l, 0 ≤ x.f) : (lFix 0 l).2 = 0 := by
  have := lFix_bd l hf 0 (by omega)
  omega
/-- The Fixed, of one penny more: all the same and one more is left; or nothing is left, and one gets it. -/
theorem lFix_step (l : List Node) (hf : ∀ x ∈ l, 0 ≤ x.f) : ∀ P, 0 ≤ P →
    ((lFix (P + 1) l).1 = (lFix P l).1 ∧ (lFix (P + 1) l).2 = (lFix P l).2 + 1) ∨
    ((lFix P l).2 = 0 ∧ (lFix (P + 1) l).2 = 0 ∧ ∀ i : Nat, (lFix P l).1[i]?.getD 0 ≤ (lFix (P + 1) l).1[i]?.getD 0 ∧ (lFix (P + 1) l).1[i]?.getD 0 ≤ (lFix P l).1[i]?.getD 0 + 1) := by
  induction l with
  | nil => intro P _; exact .inl ⟨rfl, rfl⟩
  | cons x xs ih =>
    intro P hP
    have hx := hf x (by simp)
    have hxs : ∀ y ∈ xs, 0 ≤ y.f := fun y hy => hf y (by simp [hy])
    by_cases hlt : P < x.f
    · have e1 : gmin x.f P = P := by unfold gmin; split <;> omega
      have e2 : gmin x.f (P + 1) = P + 1 := by unfold gmin; split <;> omega
      refine .inr ⟨?_, ?_, fun i => ?_⟩
      · simp only [lFix, e1, Int.sub_self]; exact lFix_zero xs hxs
      · simp only [lFix, e2, Int.sub_self]; exact lFix_zero xs hxs
      · simp only [lFix, e1, e2, Int.sub_self]
        cases i with
        | zero => simp; omega
        | succ i => simp; omega
    · have e1 : gmin x.f P = x.f := by unfold gmin; split <;> omega
      have e2 : gmin x.f (P + 1) = x.f := by unfold gmin; split <;> omega
      have e3 : P + 1 - x.f = P - x.f + 1 := by omega
      simp only [lFix, e1, e2, e3]
      rcases ih hxs (P - x.f) (by omega) with ⟨h1, h2⟩ | ⟨h1, h2, h3⟩
      · exact .inl ⟨by rw [h1], h2⟩
      · refine .inr ⟨h1, h2, fun i => ?_⟩
        cases i with
        | zero => simp; omega
        | succ i => simpa using h3 i

theorem lFin_at (R sm : Int) : ∀ (l : List (Int × Node)) (o : Int) (i : Nat) (p : Int × Node), l[i]? = some p →
    (lFin R sm o l)[i]?.getD 0 = p.1 + R * p.2.w / sm + (if 0 < p.2.w ∧ lPos ((l.take i).map (·.2)) < o then 1 else 0)
  | [], o, i, p, h => by simp at h
  | (b, x) :: xs, o, 0, p, h => by
    simp at h
    subst h
    simp only [lFin, List.take_zero, List.map_nil, lPos, List.sum_nil]
    split <;> simp
  | (b, x) :: xs, o, i + 1, p, h => by
    have hp : xs[i]? = some p := by simpa using h
    have hn := lPos_nonneg ((xs.take i).map (·.2))
    simp only [lFin]
    split
    · rename_i hc
      have e : lPos (((b, x) :: xs).take (i + 1) |>.map (·.2)) = 1 + lPos ((xs.take i).map (·.2)) := by
        simp only [List.take_succ_cons, List.map_cons, lPos, List.sum_cons, if_pos hc.1]
      rw [e, List.getElem?_cons_succ, lFin_at R sm xs (o - 1) i p hp]
      congr 1
      by_cases h1 : 0 < p.2.w ∧ lPos ((xs.take i).map (·.2)) < o - 1
      · rw [if_pos h1, if_pos ⟨h1.1, by omega⟩]
      · rw [if_neg h1, if_neg (fun h2 => h1 ⟨h2.1, by omega⟩)]
    · rename_i hc
      rw [List.getElem?_cons_succ, lFin_at R sm xs o i p hp]
      congr 1
      by_cases hw : 0 < x.w
      · have ho : ¬ 0 < o := fun h => hc ⟨hw, h⟩
        have hn2 := lPos_nonneg ((((b, x) :: xs).take (i + 1)).map (·.2))
        rw [if_neg (fun h2 => by omega), if_neg (fun h2 => by omega)]
      · have e : lPos ((((b, x) :: xs).take (i + 1)).map (·.2)) = lPos ((xs.take i).map (·.2)) := by
          simp only [List.take_succ_cons, List.map_cons, lPos, List.sum_cons, if_neg hw]; omega
        rw [e]

theorem quo_step {R w s : Int} (hw : 0 ≤ w) (hws : w ≤ s) (hs : 0 < s) : R * w / s ≤ (R + 1) * w / s ∧ (R + 1) * w / s ≤ R * w / s + 1 := by
  have e : (R + 1) * w = R * w + w := by rw [Int.add_mul, Int.one_mul]
  rw [e]
  refine ⟨Int.ediv_le_ediv hs (by omega), ?_⟩
  have h1 : R * w + w ≤ R * w + s := by omega
  have h2 := Int.ediv_le_ediv hs h1
  have h3 : (R * w + s) / s = R * w / s + 1 := by
    have := Int.add_mul_ediv_right (R * w) 1 (show s ≠ 0 by omega)
    rw [Int.one_mul] at this
    exact this
  omega
theorem sum_step (R s : Int) (hs : 0 < s) : ∀ (l : List Node), (∀ x ∈ l, 0 ≤ x.w ∧ x.w ≤ s) → ∀ (i : Nat) (x : Node), l[i]? = some x →
    (l.map fun y => R * y.w / s).sum + ((R + 1) * x.w / s - R * x.w / s) ≤ (l.map fun y => (R + 1) * y.w / s).sum
  | [], _, i, x, h => by simp at h
  | y :: ys, hl, 0, x, h => by
    simp at h
    subst h
    simp only [List.map_cons, List.sum_cons]
    have : ∀ (l : List Node), (∀ x ∈ l, 0 ≤ x.w ∧ x.w ≤ s) → (l.map fun y => R * y.w / s).sum ≤ (l.map fun y => (R + 1) * y.w / s).sum := by
      intro l
      induction l with
      | nil => intro _; simp
      | cons z zs ih =>
        intro hz
        have h1 := ih (fun a ha => hz a (by simp [ha]))
        have h2 := quo_step (R := R) (hz z (by simp)).1 (hz z (by simp)).2 hs
        simp only [List.map_cons, List.sum_cons]
        omega
    have := this ys (fun a ha => hl a (by simp [ha]))
    omega
  | y :: ys, hl, i + 1, x, h => by
    have h1 := sum_step R s hs ys (fun a ha => hl a (by simp [ha])) i x (by simpa using h)
    have h2 := quo_step (R := R) (hl y (by simp)).1 (hl y (by simp)).2 hs
    simp only [List.map_cons, List.sum_cons]
    omega
theorem lFin_zero (sm : Int) : ∀ (l : List (Int × Node)), lFin 0 sm 0 l = l.map (·.1)
  | [] => rfl
  | (b, x) :: xs => by simp [lFin, lFin_zero sm xs]
theorem lOdd_zero (sm : Int) (l : List Node) : lOdd 0 sm l = 0 := by
  unfold lOdd
  have : (l.map fun x => 0 * x.w / sm) = l.map (fun _ => (0 : Int)) := by simp
  rw [this]
  have h2 : ∀ (l : List Node), (l.map (fun _ => (0 : Int))).sum = 0 := by
    intro l
    induction l with
    | nil => rfl
    | cons x xs ih => simp only [List.map_cons, List.sum_cons, ih]; rfl
  rw [h2]; rfl
theorem near_abs {a b c d e f : Int} (h1 : a = b) (hd : c = d ∨ c = d + 1) (h : c = d + 1 → e ≤ f) (he : e = 0 ∨ e = 1) (hf : f = 0 ∨ f = 1) : b + d + f - 1 ≤ a + c + e ∧ a + c + e ≤ b + d + f + 1 := by
  rcases hd with hd | hd <;> rcases he with he | he <;> rcases hf with hf | hf <;> (try have := h hd) <;> omega
/-- **Of one penny more no part is more than 1 more, or more than 1 less.** -/
theorem splitL_near (l : List Node) (hw : ∀ x ∈ l, 0 ≤ x.w) (hf : ∀ x ∈ l, 0 ≤ x.f) (P : Int) (hP : 0 ≤ P) (i : Nat) :
    (splitL P l).1[i]?.getD 0 - 1 ≤ (splitL (P + 1) l).1[i]?.getD 0 ∧ (splitL (P + 1) l).1[i]?.getD 0 ≤ (splitL P l).1[i]?.getD 0 + 1 := by
  by_cases hi : i < l.length
  · by_cases hs : 0 < lSum l
    · have hx : l[i]? = some l[i] := List.getElem?_eq_getElem hi
      have hws : ∀ x ∈ l, 0 ≤ x.w ∧ x.w ≤ lSum l := fun x hx => ⟨hw x hx, le_sum (l.map (·.w)) (fun v hv => by obtain ⟨y, hy, rfl⟩ := List.mem_map.1 hv; exact hw y hy) _ (List.mem_map.2 ⟨x, hx, rfl⟩)⟩
      unfold splitL
      rw [if_pos hs, if_pos hs]
      simp only
      rcases lFix_step l hf P hP with ⟨h1, h2⟩ | ⟨h1, h2, h3⟩
      · rw [h1, h2]
        have hb : ((lFix P l).1.zip l)[i]? = some ((lFix P l).1[i]'(by rw [lFix_len]; exact hi), l[i]) := by
          rw [List.getElem?_zip_eq_some]
          exact ⟨List.getElem?_eq_getElem _, hx⟩
        rw [lFin_at _ _ _ _ i _ hb, lFin_at _ _ _ _ i _ hb]
        have hq := quo_step (R := (lFix P l).2) (hws _ (List.getElem_mem hi)).1 (hws _ (List.getElem_mem hi)).2 hs
        have ho : (((lFix P l).2 + 1) * l[i].w / lSum l = (lFix P l).2 * l[i].w / lSum l + 1) → lOdd ((lFix P l).2 + 1) (lSum l) l ≤ lOdd (lFix P l).2 (lSum l) l := by
          intro he
          have := sum_step (lFix P l).2 (lSum l) hs l hws i _ hx
          unfold lOdd
          omega
        refine near_abs rfl (by simp only; omega) (fun he => ?_) (by split <;> simp) (by split <;> simp)
        have := ho he
        split
        · rename_i h4
          rw [if_pos ⟨h4.1, by omega⟩]
          exact Int.le_refl _
        · split <;> omega
      · rw [h1, h2, lOdd_zero, lFin_zero, lFin_zero, List.map_fst_zip (by rw [lFix_len]; exact Nat.le_refl _), List.map_fst_zip (by rw [lFix_len]; exact Nat.le_refl _)]
        have := h3 i
        omega
    · unfold splitL
      rw [if_neg hs, if_neg hs]
      rcases lFix_step l hf P hP with ⟨h1, h2⟩ | ⟨h1, h2, h3⟩
      · rw [h1]; omega
      · have := h3 i; omega
  · have e : ∀ Q, (splitL Q l).1[i]? = none := fun Q => List.getElem?_eq_none (by rw [splitL_len]; omega)
    rw [e, e]
    simp
theorem look_near (n : Nat) : ∀ (ks : List Nat) (vs us : List Int), vs.length = us.length → (∀ i : Nat, vs[i]?.getD 0 - 1 ≤ us[i]?.getD 0 ∧ us[i]?.getD 0 ≤ vs[i]?.getD 0 + 1) →
    look n (ks.zip vs) - 1 ≤ look n (ks.zip us) ∧ look n (ks.zip us) ≤ look n (ks.zip vs) + 1
  | [], vs, us, _, _ => by simp [look]
  | k :: ks, [], [], _, _ => by simp [look]
  | k :: ks, v :: vs, u :: us, hl, h => by
    have ih := look_near n ks vs us (by simpa using hl) (fun i => by simpa using h (i + 1))
    have h0 := h 0
    simp only [List.zip_cons_cons, look]
    split
    · simpa using h0
    · exact ih
theorem gotS_near {ns : List Node} (h : GoodC ns) {p : Int} (hp : 0 ≤ p) : ∀ n, n < ns.length → gotS ns p n - 1 ≤ gotS ns (p + 1) n ∧ gotS ns (p + 1) n ≤ gotS ns p n + 1 := by
  intro n
  induction n using Nat.strongRecOn with
  | _ n ih =>
    intro hn
    by_cases h0 : n = 0
    · subst h0; rw [gotS_zero, gotS_zero]; omega
    · obtain ⟨u1, u2⟩ := h.upN hn (by omega)
      have hi := ih _ u1 (by omega)
      have b1 := (gotS_bd h hp _ (show (nodeAt ns n).u.toNat < ns.length by omega)).1
      have b2 := (gotS_bd h (show 0 ≤ p + 1 by omega) _ (show (nodeAt ns n).u.toNat < ns.length by omega)).1
      rw [gotS_up h p hn (by omega), gotS_up h (p + 1) hn (by omega)]
      generalize gotS ns p (nodeAt ns n).u.toNat = a at *
      generalize gotS ns (p + 1) (nodeAt ns n).u.toNat = b at *
      have hlen : ∀ a b, (splitL a ((kidsN ns (nodeAt ns n).u.toNat).map (nodeAt ns))).1.length = (splitL b ((kidsN ns (nodeAt ns n).u.toNat).map (nodeAt ns))).1.length := fun a b => by rw [splitL_len, splitL_len]
      have hc : b = a ∨ b = a + 1 ∨ a = b + 1 := by omega
      rcases hc with rfl | rfl | rfl
      · omega
      · exact look_near n _ _ _ (hlen _ _) (splitL_near _ (kidW h _) (kidF h _) a b1)
      · have := look_near n (kidsN ns (nodeAt ns n).u.toNat) _ _ (hlen _ _) (splitL_near _ (kidW h _) (kidF h _) b b2)
        omega
/-! The first ones. -/
theorem rem_zero (R sm : Int) (hs : 0 < sm) : ∀ (l : List Node), (∀ x ∈ l, 0 ≤ x.w) → (l.map fun x => R * x.w % sm).sum = 0 → ∀ x ∈ l, R * x.w % sm = 0
  | [], _, _, x, hx => by simp at hx
  | y :: ys, hw, h, x, hx => by
    simp only [List.map_cons, List.sum_cons] at h
    have h1 : 0 ≤ R * y.w % sm := Int.emod_nonneg _ (by omega)
    have h2 : ∀ (l : List Node), 0 ≤ (l.map fun x => R * x.w % sm).sum := by
      intro l
      induction l with
      | nil => simp
      | cons z zs ih =>
        have := Int.emod_nonneg (R * z.w) (show sm ≠ 0 by omega)
        simp only [List.map_cons, List.sum_cons]
        omega
    have h3 := h2 ys
    rcases List.mem_cons.1 hx with e | hx
    · rw [e]; omega
    · exact rem_zero R sm hs ys (fun a ha => hw a (List.mem_cons_of_mem _ ha)) (by omega) x hx
theorem rem_sum (R sm : Int) : ∀ (l : List Node), (l.map fun x => R * x.w % sm).sum = R * lSum l - sm * (l.map fun x => R * x.w / sm).sum
  | [] => by simp [lSum]
  | x :: xs => by
    have ih := rem_sum R sm xs
    have hd := Int.mul_ediv_add_emod (R * x.w) sm
    have e1 : lSum (x :: xs) = x.w + lSum xs := by simp [lSum]
    simp only [List.map_cons, List.sum_cons]
    rw [e1, Int.mul_add, Int.mul_add]
    omega
theorem quo_exact {R w s : Int} (hs : 0 < s) (hw : 0 < w) (hws : w ≤ s) (h : (R + 1) * w % s = 0) : (R + 1) * w / s = R * w / s + 1 := by
  have e : (R + 1) * w = R * w + w := by rw [Int.add_mul, Int.one_mul]
  have h1 := Int.emod_add_mul_ediv ((R + 1) * w) s
  rw [h, Int.zero_add] at h1
  have h2 : R * w = s * ((R + 1) * w / s - 1) + (s - w) := by
    rw [Int.mul_sub, h1, e]; omega
  have h3 : R * w / s = (R + 1) * w / s - 1 := by
    rw [h2, Int.add_comm, Int.add_mul_ediv_left _ _ (show s ≠ 0 by omega), Int.ediv_eq_zero_of_lt (by omega) (by omega), Int.zero_add]
  omega
theorem splitL_first (l : List Node) (hw : ∀ x ∈ l, 0 ≤ x.w) (hf : ∀ x ∈ l, 0 ≤ x.f) (P : Int) (hP : 0 ≤ P) (i : Nat) (hi : i < l.length) (hpos : 0 < l[i].w) (hfst : lPos (l.take i) = 0) :
    (splitL P l).1[i]?.getD 0 ≤ (splitL (P + 1) l).1[i]?.getD 0 := by
  have hx : l[i]? = some l[i] := List.getElem?_eq_getElem hi
  have hws : ∀ x ∈ l, 0 ≤ x.w ∧ x.w ≤ lSum l := fun x hx => ⟨hw x hx, le_sum (l.map (·.w)) (fun v hv => by obtain ⟨y, hy, rfl⟩ := List.mem_map.1 hv; exact hw y hy) _ (List.mem_map.2 ⟨x, hx, rfl⟩)⟩
  have hwi := hws _ (List.getElem_mem hi)
  have hs : 0 < lSum l := by omega
  unfold splitL
  rw [if_pos hs, if_pos hs]
  simp only
  rcases lFix_step l hf P hP with ⟨h1, h2⟩ | ⟨h1, h2, h3⟩
  · rw [h1, h2]
    have hb : ((lFix P l).1.zip l)[i]? = some ((lFix P l).1[i]'(by rw [lFix_len]; exact hi), l[i]) := by
      rw [List.getElem?_zip_eq_some]
      exact ⟨List.getElem?_eq_getElem _, hx⟩
    have ht : lPos ((((lFix P l).1.zip l).take i).map (·.2)) = 0 := by
      rw [List.map_take, List.map_snd_zip (by rw [lFix_len]; exact Nat.le_refl _)]
      exact hfst
    rw [lFin_at _ _ _ _ i _ hb, lFin_at _ _ _ _ i _ hb, ht]
    have hq := quo_step (R := (lFix P l).2) hwi.1 hwi.2 hs
    have hR := (lFix_bd l hf P hP).1
    have hodd := (lOdd_bd ((lFix P l).2 + 1) l hw hs).1
    have hex : lOdd ((lFix P l).2 + 1) (lSum l) l = 0 → ((lFix P l).2 + 1) * l[i].w / lSum l = (lFix P l).2 * l[i].w / lSum l + 1 := by
      intro h0
      refine quo_exact hs hpos hwi.2 (rem_zero _ _ hs l hw ?_ _ (List.getElem_mem hi))
      rw [rem_sum]
      unfold lOdd at h0
      have h5 : (l.map fun x => ((lFix P l).2 + 1) * x.w / lSum l).sum = (lFix P l).2 + 1 := by omega
      rw [h5, Int.mul_comm]
      omega
    simp only
    by_cases ho : 0 < lOdd ((lFix P l).2 + 1) (lSum l) l
    · split <;> split <;> omega
    · have := hex (by omega)
      split <;> split <;> omega
  · rw [h1, h2, lOdd_zero, lFin_zero, lFin_zero, List.map_fst_zip (by rw [lFix_len]; exact Nat.le_refl _), List.map_fst_zip (by rw [lFix_len]; exact Nat.le_refl _)]
    have := h3 i
    omega

theorem look_at : ∀ (ks : List Nat) (vs : List Int) (i n : Nat), ks.Nodup → ks[i]? = some n → vs.length = ks.length → look n (ks.zip vs) = vs[i]?.getD 0
  | [], _, i, n, _, h, _ => by simp at h
  | k :: ks, [], _, _, _, _, hl => by simp at hl
  | k :: ks, v :: vs, 0, n, _, h, _ => by
    simp at h
    simp [look, h]
  | k :: ks, v :: vs, i + 1, n, hd, h, hl => by
    have h' : ks[i]? = some n := by simpa using h
    have hne : k ≠ n := fun e => (List.nodup_cons.1 hd).1 (e ▸ List.mem_of_getElem? h')
    simp only [List.zip_cons_cons, look]
    rw [if_neg hne, look_at ks vs i n (List.nodup_cons.1 hd).2 h' (by simpa using hl)]
    simp
/-- The first one with a Weight above 0 below a node, or -1. -/
def firstI (ns : List Node) (l : List Nat) : Int := match l.find? (fun i => decide (0 < (nodeAt ns i).w)) with | some i => (i : Int) | none => -1
def isFirstF (ns : List Node) : Nat → Nat → Bool
  | 0, _ => true
  | f + 1, n => if n = 0 then true else if firstI ns (kidsN ns (upN ns n)) = (n : Int) then isFirstF ns f (upN ns n) else false
def isFirstB (ns : List Node) (n : Nat) : Bool := isFirstF ns n n
theorem isFirst_more {ns : List Node} (h : GoodC ns) : ∀ (n f : Nat), n < ns.length → n ≤ f → isFirstF ns f n = isFirstB ns n := by
  intro n
  induction n using Nat.strongRecOn with
  | _ n ih =>
    intro f hn hf
    cases n with
    | zero => cases f <;> simp [isFirstF, isFirstB]
    | succ n =>
      obtain ⟨f, rfl⟩ : ∃ g, f = g + 1 := ⟨f - 1, by omega⟩
      have hu : upN ns (n + 1) < n + 1 := (h.upN hn (by omega)).1
      rw [isFirstB]
      simp only [isFirstF, if_neg (Nat.succ_ne_zero n)]
      rw [ih _ hu f (by omega) (by omega), ih _ hu n (by omega) (by omega)]
theorem isFirst_up {ns : List Node} (h : GoodC ns) {n : Nat} (hn : n < ns.length) (h0 : 0 < n) : isFirstB ns n = if firstI ns (kidsN ns (upN ns n)) = (n : Int) then isFirstB ns (upN ns n) else false := by
  obtain ⟨m, rfl⟩ : ∃ m, n = m + 1 := ⟨n - 1, by omega⟩
  have hu : upN ns (m + 1) < m + 1 := (h.upN hn (by omega)).1
  rw [isFirstB]
  simp only [isFirstF, if_neg (Nat.succ_ne_zero m)]
  rw [isFirst_more h _ m (by omega) (by omega)]
theorem lPos_zero : ∀ (l : List Node), (∀ x ∈ l, ¬ 0 < x.w) → lPos l = 0
  | [], _ => rfl
  | x :: xs, h => by
    have := lPos_zero xs (fun y hy => h y (List.mem_cons_of_mem _ hy))
    have hx := h x (List.mem_cons_self ..)
    simp only [lPos, List.map_cons, List.sum_cons] at this ⊢
    rw [if_neg hx, this]; rfl
/-- **The first ones never fall.** -/
theorem first_mono {ns : List Node} (h : GoodC ns) {p : Int} (hp : 0 ≤ p) : ∀ n, n < ns.length → isFirstB ns n = true → gotS ns p n ≤ gotS ns (p + 1) n := by
  intro n
  induction n using Nat.strongRecOn with
  | _ n ih =>
    intro hn hb
    by_cases h0 : n = 0
    · subst h0; rw [gotS_zero, gotS_zero]; omega
    · obtain ⟨u1, u2⟩ := h.upN hn (by omega)
      have hu : upN ns n < n := u1
      rw [isFirst_up h hn (by omega)] at hb
      split at hb
      · rename_i hfst
        have hi := ih _ hu (by omega) hb
        have hnear := gotS_near h hp (upN ns n) (by omega)
        have b1 := (gotS_bd h hp (upN ns n) (by omega)).1
        rw [gotS_up h p hn (by omega), gotS_up h (p + 1) hn (by omega)]
        change look n ((kidsN ns (upN ns n)).zip (splitL (gotS ns p (upN ns n)) ((kidsN ns (upN ns n)).map (nodeAt ns))).1) ≤ look n ((kidsN ns (upN ns n)).zip (splitL (gotS ns (p + 1) (upN ns n)) ((kidsN ns (upN ns n)).map (nodeAt ns))).1)
        generalize gotS ns p (upN ns n) = a at *
        generalize gotS ns (p + 1) (upN ns n) = b at *
        have hc : b = a ∨ b = a + 1 := by omega
        rcases hc with rfl | rfl
        · exact Int.le_refl _
        · unfold firstI at hfst
          split at hfst
          · rename_i i hfind
            obtain rfl : i = n := by omega
            obtain ⟨hpos, la, lb, hl, hla⟩ := List.find?_eq_some_iff_append.1 hfind
            have hix : (kidsN ns (upN ns i))[la.length]? = some i := by rw [hl]; simp
            have hlt : la.length < ((kidsN ns (upN ns i)).map (nodeAt ns)).length := by rw [List.length_map]; exact (List.getElem?_eq_some_iff.1 hix).1
            have hgi : ((kidsN ns (upN ns i)).map (nodeAt ns))[la.length] = nodeAt ns i := by
              have : ((kidsN ns (upN ns i)).map (nodeAt ns))[la.length]? = some (nodeAt ns i) := by rw [List.getElem?_map, hix]; rfl
              exact (List.getElem?_eq_some_iff.1 this).2
            have hnd := kids_nodup ns (upN ns i)
            rw [look_at _ _ _ _ hnd hix (by rw [splitL_len, List.length_map]), look_at _ _ _ _ hnd hix (by rw [splitL_len, List.length_map])]
            refine splitL_first _ (kidW h _) (kidF h _) a b1 la.length hlt (by rw [hgi]; exact of_decide_eq_true hpos) ?_
            refine lPos_zero _ (fun x hx => ?_)
            rw [hl, ← List.map_take] at hx
            simp only [List.take_left', List.mem_map] at hx
            obtain ⟨j, hj, rfl⟩ := hx
            have := hla j hj
            simpa using this
          · omega
      · cases hb
end Go.Proofs.Ytmbcpmnigggbaaa.Sh
