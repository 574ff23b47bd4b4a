import Derived.Test.YtmbcpmnigggbaaaShB12
namespace Go.Proofs.Ytmbcpmnigggbaaa.Sh
open Go.RowKit

set_option maxRecDepth 100000 in
set_option maxHeartbeats 1000000 in
theorem sameInts_is (A1 A2 : Option Addr) (c1 c2 : Nat) (l : List Int) (hl : l.length ≤ 1000) (w : World) (h1 : IntsAt w w.heap.size A1 l) (h2 : IntsAt w w.heap.size A2 l) :
    Calls Try.prog 44 #[.slice A1 l.length c1, .slice A2 l.length c2] w fun e w' => e = .returned (.bool true) ∧ Below w.heap.size w w' := by
  have H1 := Lib.hid h1
  have H2 := Lib.hid h2
  clear h1 h2
  go_enter Try.func44, Try.ntmps44
  go_wp2
  go_loopw [5] (fun i wr => ∃ k : Nat, k ≤ l.length ∧ i = .int .i64 k ∧ Below w.heap.size w wr) (fun i _ => l.length - (intOf i).toNat)
  case atStart => exact ⟨0, Nat.zero_le _, rfl, Below.refl _ _⟩
  case round =>
    obtain ⟨k, hk, rfl, hb⟩ := hrel
    by_cases hlt : k < l.length
    · obtain ⟨x, hx⟩ : ∃ x, l[k]? = some x := ⟨_, List.getElem?_eq_getElem hlt⟩
      obtain ⟨b1, o1, rfl, _, d1⟩ := IntsAt.at_ (ilt H1.out hb) hx
      obtain ⟨b2, o2, rfl, _, d2⟩ := IntsAt.at_ (ilt H2.out hb) hx
      have e1 := extB_cell d1
      have e2 := extB_cell d2
      clear hx
      go_wp2
      refine wp_region_ext (by kernel_rfl) (by kernel_rfl) ?_
      repeat (go_big_quiet_step (fail))
      refine wpQuiet_nil ?_
      rintro _ ⟨x1, rfl⟩
      have hb1 := hb.trans ((extB_below wr x1).mono hb.size)
      go_wp2
      go_roundw
      case rel => exact ⟨k + 1, by omega, by go_num, hb1⟩
      case measure => simp [intOf]; omega
    · obtain rfl : k = l.length := by omega
      go_wp2
      go_ret
      exact ⟨rfl, hb⟩
open Go.RowKit

def exC : List Node := [⟨-1, 0, 0⟩, ⟨0, 0, 3⟩, ⟨0, 1, 0⟩, ⟨0, 1, 0⟩, ⟨2, 2, 0⟩, ⟨2, 1, 0⟩, ⟨3, 1, 2⟩, ⟨3, 4, 0⟩]
def exD : List Node := [⟨-1, 0, 0⟩, ⟨0, 1, 0⟩, ⟨0, 1, 0⟩, ⟨0, 4, 0⟩, ⟨0, 4, 0⟩]
theorem nodes_lay {W : World} {g : Nat} {t : TypeId} {cells : Array Value} {ns : List Node} (h : W.heap[g]? = some (.cells cells t (0, 0))) (hc : cells = (nodeCells ns).toArray) : Nodes W W.heap.size (some ⟨g, 0, none⟩) ns := by
  refine .inr ⟨g, 0, rfl, (Array.getElem?_eq_some_iff.1 h).1, fun i x hx => ?_⟩
  obtain ⟨d1, d2, d3⟩ := nodeCells_at ns i x hx
  have hk : ∀ j v, (nodeCells ns)[j]? = some v → W.cell? ⟨g, j, none⟩ = some v := fun j v hj => by
    simp [World.cell?, h, hc, hj]
  rw [Nat.zero_add]
  exact ⟨hk _ _ d1, hk _ _ d2, hk _ _ d3⟩
set_option maxRecDepth 100000 in
set_option maxHeartbeats 4000000 in
theorem example_any (w : World) : Calls Try.prog 97 #[] w fun e w' => ∃ g h, e = .returned (.tuple #[.agg #[.slice (some ⟨g, 0, none⟩) 8 8], .agg #[.slice (some ⟨h, 0, none⟩) 5 5]]) ∧ Nodes w' w'.heap.size (some ⟨g, 0, none⟩) exC ∧ Nodes w' w'.heap.size (some ⟨h, 0, none⟩) exD ∧ Below w.heap.size w w' := by
  go_enter Try.func97, Try.ntmps97
  go_wp2
  go_region
  go_wp2
  have h1 := (World.alloc_heap_new ((w.alloc (.cells #[.slice (some ⟨w.heap.size + 1 + 1, 0, none⟩) 8 8] 76)).alloc (.cells #[.slice (some ⟨w.heap.size + 1 + 1 + 1, 0, none⟩) 5 5] 76)) (.cells (nodeCells exC).toArray 158))
  have h2 := World.alloc_heap_new (((w.alloc (.cells #[.slice (some ⟨w.heap.size + 1 + 1, 0, none⟩) 8 8] 76)).alloc (.cells #[.slice (some ⟨w.heap.size + 1 + 1 + 1, 0, none⟩) 5 5] 76)).alloc (.cells (nodeCells exC).toArray 158)) (.cells (nodeCells exD).toArray 158)
  have h3 := (Below.heap_alloc _ (.cells (nodeCells exD).toArray 158) _ (Array.getElem?_eq_some_iff.1 h1).1).trans h1
  simp only [World.size_alloc] at h2 h3
  have hb : Below w.heap.size w ((((w.alloc (.cells #[.slice (some ⟨w.heap.size + 1 + 1, 0, none⟩) 8 8] 76)).alloc (.cells #[.slice (some ⟨w.heap.size + 1 + 1 + 1, 0, none⟩) 5 5] 76)).alloc (.cells (nodeCells exC).toArray 158)).alloc (.cells (nodeCells exD).toArray 158)) := ((((Below.refl _ w).alloc (Nat.le_refl _) _).alloc (by simp) _).alloc (by simp; omega) _).alloc (by simp; omega) _
  refine bodyPost_ret (v := .tuple #[.agg #[.slice (some ⟨w.heap.size + 1 + 1, 0, none⟩) 8 8], .agg #[.slice (some ⟨w.heap.size + 1 + 1 + 1, 0, none⟩) 5 5]]) (by simp [results, Try.results97, go_sem]) rfl ⟨w.heap.size + 1 + 1, w.heap.size + 1 + 1 + 1, rfl, nodes_lay h3 rfl, nodes_lay h2 rfl, hb.drew⟩
open Go.RowKit
theorem exKeeps0 : penceE exC 42 = 0 := by kernel_rfl
theorem exKeeps : keptsS exC 42 = [0, 3, 0, 0, 14, 6, 6, 13] := by kernel_rfl
theorem exFrom : fromS exC 7 13 = (41, 0) := by kernel_rfl
theorem exFalls : fallsS exD 2 = (2, 0) := by kernel_rfl
theorem exExact : exactS exC 7 = ((2, 5), 0) := by kernel_rfl
theorem exWeights : wtsV exC 5 [⟨42, 5, 6⟩] = [1] := by kernel_rfl
theorem exWeights0 : wtsR exC 5 [⟨42, 5, 6⟩] = 0 := by kernel_rfl
theorem exAsk : askS exC 5 [] = (68, 0) := by kernel_rfl

theorem exK (g : Nat) (W : World) (hN : Nodes W W.heap.size (some ⟨g, 0, none⟩) exC) : Calls Try.prog 43 #[.agg #[.slice (some ⟨g, 0, none⟩) 8 8], .int .i64 42] W fun e w' =>
    ∃ b, e = .returned (.tuple #[.slice (some ⟨b, 0, none⟩) 8 8, .int .i64 0]) ∧ Row w' b [0, 3, 0, 0, 14, 6, 6, 13] ∧ Below W.heap.size W w' := by
  have h := keepsAll_ok (some ⟨g, 0, none⟩) 8 exC 42 (by decide) W hN exKeeps0
  rw [exKeeps] at h
  exact h.mono fun e w' ⟨b, he, _, hr, hb⟩ => ⟨b, he, hr, hb⟩
theorem exF (g : Nat) (W : World) (hN : Nodes W W.heap.size (some ⟨g, 0, none⟩) exC) : Calls Try.prog 98 #[.agg #[.slice (some ⟨g, 0, none⟩) 8 8], .int .i64 7, .int .i64 13] W fun e w' =>
    e = .returned (.tuple #[.int .i64 41, .int .i64 0]) ∧ Below W.heap.size W w' := by
  have h := from_any (some ⟨g, 0, none⟩) 8 exC 7 13 (by decide) W hN
  rw [exFrom] at h
  exact h
theorem exL (g : Nat) (W : World) (hN : Nodes W W.heap.size (some ⟨g, 0, none⟩) exD) : Calls Try.prog 99 #[.agg #[.slice (some ⟨g, 0, none⟩) 5 5], .int .i64 2] W fun e w' =>
    e = .returned (.tuple #[.int .i64 2, .int .i64 0]) ∧ Below W.heap.size W w' := by
  have h := falls_any (some ⟨g, 0, none⟩) 5 exD 2 (by decide) W hN
  rw [exFalls] at h
  exact h
theorem exX (g : Nat) (W : World) (hN : Nodes W W.heap.size (some ⟨g, 0, none⟩) exC) : Calls Try.prog 100 #[.agg #[.slice (some ⟨g, 0, none⟩) 8 8], .int .i64 7] W fun e w' =>
    e = .returned (.tuple #[.agg #[.int .i64 2, .int .i64 5], .int .i64 0]) ∧ Below W.heap.size W w' := by
  have h := exact_any (some ⟨g, 0, none⟩) 8 exC 7 (by decide) W hN
  rw [exExact] at h
  exact h
theorem exW (g p : Nat) (W : World) (hN : Nodes W W.heap.size (some ⟨g, 0, none⟩) exC) (hP : Nodes W W.heap.size (some ⟨p, 0, none⟩) [⟨42, 5, 6⟩]) : Calls Try.prog 101 #[.agg #[.slice (some ⟨g, 0, none⟩) 8 8], .int .i64 5, .slice (some ⟨p, 0, none⟩) 1 1] W fun e w' =>
    ∃ Ao co, e = .returned (.tuple #[.slice Ao 1 co, .int .i64 0]) ∧ IntsAt w' w'.heap.size Ao [1] ∧ Below W.heap.size W w' := by
  have h := weights_ok (some ⟨g, 0, none⟩) (some ⟨p, 0, none⟩) 8 1 exC [⟨42, 5, 6⟩] 5 (by decide) (by decide) W hN hP
  rw [exWeights, exWeights0] at h
  exact h
theorem exA (g : Nat) (W : World) (hN : Nodes W W.heap.size (some ⟨g, 0, none⟩) exC) : Calls Try.prog 102 #[.agg #[.slice (some ⟨g, 0, none⟩) 8 8], .int .i64 5, .slice none 0 0] W fun e w' =>
    e = .returned (.tuple #[.int .i64 68, .int .i64 0]) ∧ Below W.heap.size W w' := by
  have h := ask_ok (some ⟨g, 0, none⟩) none 8 0 exC [] 5 (by decide) (by decide) W hN nodes_nil
  rw [exAsk] at h
  exact h
theorem exS8 (Ao : Option Addr) (co p : Nat) (W : World) (h1 : IntsAt W W.heap.size Ao [0, 3, 0, 0, 14, 6, 6, 13]) (h2 : IntsAt W W.heap.size (some ⟨p, 0, none⟩) [0, 3, 0, 0, 14, 6, 6, 13]) :
    Calls Try.prog 44 #[.slice Ao 8 co, .slice (some ⟨p, 0, none⟩) 8 8] W fun e w' => e = .returned (.bool true) ∧ Below W.heap.size W w' :=
  sameInts_is Ao (some ⟨p, 0, none⟩) co 8 [0, 3, 0, 0, 14, 6, 6, 13] (by decide) W h1 h2
theorem exS1 (Ao : Option Addr) (co p : Nat) (W : World) (h1 : IntsAt W W.heap.size Ao [1]) (h2 : IntsAt W W.heap.size (some ⟨p, 0, none⟩) [1]) :
    Calls Try.prog 44 #[.slice Ao 1 co, .slice (some ⟨p, 0, none⟩) 1 1] W fun e w' => e = .returned (.bool true) ∧ Below W.heap.size W w' :=
  sameInts_is Ao (some ⟨p, 0, none⟩) co 1 [1] (by decide) W h1 h2
theorem row_lay {W : World} {g : Nat} {cells : Array Value} {l : List Int} (h : W.heap[g]? = some (.cells cells 3 (0, 0))) (hc : cells = cellsOf l) : Row W g l := by subst hc; exact h

theorem new8 (W : World) : IntsAt (W.alloc (.cells #[.int .i64 0, .int .i64 3, .int .i64 0, .int .i64 0, .int .i64 14, .int .i64 6, .int .i64 6, .int .i64 13] 3)) (W.alloc (.cells #[.int .i64 0, .int .i64 3, .int .i64 0, .int .i64 0, .int .i64 14, .int .i64 6, .int .i64 6, .int .i64 13] 3)).heap.size (some ⟨W.heap.size, 0, none⟩) [0, 3, 0, 0, 14, 6, 6, 13] := row_ints (row_lay (World.alloc_heap_new W _) rfl)
theorem new1 (W : World) : IntsAt (W.alloc (.cells #[.int .i64 1] 3)) (W.alloc (.cells #[.int .i64 1] 3)).heap.size (some ⟨W.heap.size, 0, none⟩) [1] := row_ints (row_lay (World.alloc_heap_new W _) rfl)
theorem below4 {a b c d e : World} (h1 : Below a.heap.size a b) (h2 : Below b.heap.size b c) (h3 : Below c.heap.size c d) (h4 : Below d.heap.size d e) : Below a.heap.size a e :=
  hb0to h1 (hb0to h2 (hb0to h3 h4))
set_option maxRecDepth 100000 in
theorem eq33 (x y : Int) (w : World) : (binOp .eql 143 (.agg #[.int .i64 x, .int .i64 y]) (.agg #[.int .i64 x, .int .i64 y])).run Try.prog w = .ok (.bool true) w := by
  simp [go_sem]
set_option maxRecDepth 100000 in
set_option maxHeartbeats 4000000 in
theorem works_any (w : World) : Calls Try.prog 38 #[] w fun e w' => e = .returned (.bool true) ∧ Below w.heap.size w w' := by
  have hq := eq33 2 5
  go_enter Try.func38, Try.ntmps38
  go_wp2_with (first
    | (go_at_call 97; go_must (refine (example_any _).mono ?_; rintro e w1 ⟨g, h, rfl, hC1, hD1, hb1⟩; have hC2 := Nodes.alloc (Nodes.alloc hC1 (.cells #[.slice (some ⟨g, 0, none⟩) 8 8] 76)) (.cells #[.slice (some ⟨h, 0, none⟩) 5 5] 76); have hD2 := Nodes.alloc (Nodes.alloc hD1 (.cells #[.slice (some ⟨g, 0, none⟩) 8 8] 76)) (.cells #[.slice (some ⟨h, 0, none⟩) 5 5] 76); have bC := (Boxed.new w1 76 (.slice (some ⟨g, 0, none⟩) 8 8)).alloc (.cells #[.slice (some ⟨h, 0, none⟩) 5 5] 76); have bD := Boxed.new (w1.alloc (.cells #[.slice (some ⟨g, 0, none⟩) 8 8] 76)) 76 (.slice (some ⟨h, 0, none⟩) 5 5)))
    | (go_at_call 43; go_must (refine (exK g _ hC2).mono ?_; rintro e w2 ⟨kb, rfl, hr2, hb2⟩; have hC3 := Nodes.lt hC2 hb2; have hD3 := Nodes.lt hD2 hb2; have bC3 := boxed_ext hb2 bC; have bD3 := boxed_ext hb2 bD; have m1 := bC3.cell))
    | (go_at_call 98; go_must (refine (exF g w2 hC3).mono ?_; rintro e w3 ⟨rfl, hb3⟩; have hC4 := Nodes.lt hC3 hb3; have hD4 := Nodes.lt hD3 hb3; have bC4 := boxed_ext hb3 bC3; have bD4 := boxed_ext hb3 bD3; have m2 := bD4.cell; rw [World.size_alloc] at m2))
    | (go_at_call 99; go_must (refine (exL h w3 hD4).mono ?_; rintro e w4 ⟨rfl, hb4⟩; have hC5 := Nodes.lt hC4 hb4; have bC5 := boxed_ext hb4 bC4; have m3 := bC5.cell))
    | (go_at_call 100; go_must (refine (exX g w4 hC5).mono ?_; rintro e w5 ⟨rfl, hb5⟩; have bC6 := (boxed_ext hb5 bC5).alloc (.cells #[.int .i64 2, .int .i64 5] 143); have m4 := bC6.cell; have hC6 := Nodes.alloc (Nodes.alloc (Nodes.lt hC5 hb5) (.cells #[.int .i64 2, .int .i64 5] 143)) (.cells #[.int .i64 42, .int .i64 5, .int .i64 6] 148); have hP6 : Nodes ((w5.alloc (.cells #[.int .i64 2, .int .i64 5] 143)).alloc (.cells #[.int .i64 42, .int .i64 5, .int .i64 6] 148)) ((w5.alloc (.cells #[.int .i64 2, .int .i64 5] 143)).alloc (.cells #[.int .i64 42, .int .i64 5, .int .i64 6] 148)).heap.size (some ⟨(w5.alloc (.cells #[.int .i64 2, .int .i64 5] 143)).heap.size, 0, none⟩) [⟨42, 5, 6⟩] := nodes_lay (World.alloc_heap_new (w5.alloc (.cells #[.int .i64 2, .int .i64 5] 143)) (.cells #[.int .i64 42, .int .i64 5, .int .i64 6] 148)) rfl; have t6 : Two (w5.alloc (.cells #[.int .i64 2, .int .i64 5] 143)) w5.heap.size 2 5 := World.alloc_heap_new w5 _; rw [World.size_alloc w5] at hP6))
    | (go_at_call 101; go_must (refine (exW g _ _ hC6 hP6).mono ?_; rintro e w6 ⟨Aw, cw, rfl, hIw, hb6⟩; have hb6' := ((Below.refl _ (w5.alloc (.cells #[.int .i64 2, .int .i64 5] 143))).alloc (Nat.le_refl _) (.cells #[.int .i64 42, .int .i64 5, .int .i64 6] 148)).trans (hb6.mono (by simp)); have bC7 := boxed_ext hb6' bC6; have m5 := bC7.cell; have hC7 := Nodes.lt hC6 hb6))
    | (go_at_call 102; go_must (refine (exA g w6 hC7).mono ?_; rintro e w7 ⟨rfl, hb7⟩; have hb67 := hb6'.trans (hb7.mono hb6'.size); have hb57 := ((Below.refl _ w5).alloc (Nat.le_refl _) (.cells #[.int .i64 2, .int .i64 5] 143)).trans (hb67.mono (by simp)); have hb27 := below4 hb3 hb4 hb5 hb57; have hI7 := ilt (ilt (row_ints hr2) hb27) ((Below.refl _ w7).alloc (Nat.le_refl _) (.cells #[.int .i64 0, .int .i64 3, .int .i64 0, .int .i64 0, .int .i64 14, .int .i64 6, .int .i64 6, .int .i64 13] 3)); have hJ7 := new8 w7; have hw7 := ilt (ilt hIw hb7) ((Below.refl _ w7).alloc (Nat.le_refl _) (.cells #[.int .i64 0, .int .i64 3, .int .i64 0, .int .i64 0, .int .i64 14, .int .i64 6, .int .i64 6, .int .i64 13] 3)); have t7 := (Two.below (Two.below t6 hb67 (Two.lt t6)) ((Below.refl _ w7).alloc (Nat.le_refl _) (.cells #[.int .i64 0, .int .i64 3, .int .i64 0, .int .i64 0, .int .i64 14, .int .i64 6, .int .i64 6, .int .i64 13] 3)) (Nat.lt_of_lt_of_le (Two.lt t6) hb67.size))))
    | (go_at_call 44; refine (exS1 _ _ _ _ hw9 hJ9).mono ?_; rintro e w10 ⟨rfl, hb10⟩)
    | (go_at_call 44; refine (exS8 _ _ _ _ hI7 hJ7).mono ?_; rintro e w9 ⟨rfl, hb9⟩; have t9 := Two.below t7 hb9 (Two.lt t7); have q0 := t9.c0; have q1 := t9.c1; have hw9 := ilt (ilt hw7 hb9) ((Below.refl _ w9).alloc (Nat.le_refl _) (.cells #[.int .i64 1] 3)); have hJ9 := new1 w9))
  go_ret
  refine ⟨rfl, ?_⟩
  have k1 := hb0to ((hb1.alloc hb1.size (.cells #[.slice (some ⟨g, 0, none⟩) 8 8] 76)).alloc (by have := hb1.size; simp; omega) (.cells #[.slice (some ⟨h, 0, none⟩) 5 5] 76)) hb2
  have k2 := hb0to k1 hb27
  have k3 := hb0to (k2.alloc k2.size _) hb9
  exact hb0to (k3.alloc k3.size _) hb10
open Go.RowKit

theorem within1_is (n lo hi : Int) (w : World) (b : Bool) (hb : inR n lo hi = b) : Calls Try.prog 28 #[.int .i64 n, .int .i64 lo, .int .i64 hi] w fun e w' => e = .returned (.bool b) ∧ w = w' := by
  rw [← hb]; exact refWithin_any n lo hi w
end Go.Proofs.Ytmbcpmnigggbaaa.Sh
