import Derived.Test.YtmbcpmnigggbaaaGreatShB12
import Derived.Test.YtmbcpmnigggbaaaGreatShB6
namespace Go.Proofs.YtmbcpmnigggbaaaGreat.Sh
open Go.RowKit

set_option maxRecDepth 100000 in
set_option maxHeartbeats 1000000 in
theorem sameInts_is (A1 A2 : Option Addr) (c1 c2 : Nat) (l : List Int) (hl : l.length ≤ 1000) (w : World) (h1 : IntsAt w w.heap.size A1 l) (h2 : IntsAt w w.heap.size A2 l) :
    Calls Tryz.prog 11 #[.slice A1 l.length c1, .slice A2 l.length c2] w fun e w' => e = .returned (.bool true) ∧ Below w.heap.size w w' := by
  have H1 := Lib.hid h1
  have H2 := Lib.hid h2
  clear h1 h2
  go_enter Tryz.func11, Tryz.ntmps11
  go_wp2
  go_loopw [5] (fun i wr => ∃ k : Nat, k ≤ l.length ∧ i = .int .i64 k ∧ Below w.heap.size w wr) (fun i _ => l.length - (intOf i).toNat)
  case atStart => exact ⟨0, Nat.zero_le _, rfl, Below.refl _ _⟩
  case round =>
    obtain ⟨k, hk, rfl, hb⟩ := hrel
    by_cases hlt : k < l.length
    · obtain ⟨x, hx⟩ : ∃ x, l[k]? = some x := ⟨_, List.getElem?_eq_getElem hlt⟩
      obtain ⟨b1, o1, rfl, _, d1⟩ := IntsAt.at_ (ilt H1.out hb) hx
      obtain ⟨b2, o2, rfl, _, d2⟩ := IntsAt.at_ (ilt H2.out hb) hx
      have e1 := extB_cell d1
      have e2 := extB_cell d2
      clear hx
      go_wp2
      refine wp_region_ext (by kernel_rfl) (by kernel_rfl) ?_
      repeat (go_big_quiet_step (fail))
      refine wpQuiet_nil ?_
      rintro _ ⟨x1, rfl⟩
      have hb1 := hb.trans ((extB_below wr x1).mono hb.size)
      go_wp2
      go_roundw
      case rel => exact ⟨k + 1, by omega, by go_num, hb1⟩
      case measure => simp [intOf]; omega
    · obtain rfl : k = l.length := by omega
      go_wp2
      go_ret
      exact ⟨rfl, hb⟩
set_option maxRecDepth 100000 in
theorem neq46 (x : Node) (w : World) : (binOp .neq 69 (.agg #[.int .i64 x.u, .int .i64 x.w, .int .i64 x.f]) (.agg #[.int .i64 x.u, .int .i64 x.w, .int .i64 x.f])).run Tryz.prog w = .ok (.bool false) w := by
  simp [go_sem]
set_option maxRecDepth 100000 in
set_option maxHeartbeats 1000000 in
theorem same_is (A1 A2 : Option Addr) (c1 c2 : Nat) (l : List Node) (hl : l.length ≤ 1000) (w : World) (h1 : Nodes w w.heap.size A1 l) (h2 : Nodes w w.heap.size A2 l) :
    Calls Tryz.prog 12 #[.agg #[.slice A1 l.length c1], .agg #[.slice A2 l.length c2]] w fun e w' => e = .returned (.bool true) ∧ Below w.heap.size w w' := by
  have H1 := Lib.hid h1
  have H2 := Lib.hid h2
  have b1 : Boxed ((w.alloc (.cells #[.slice A1 l.length c1] 24)).alloc (.cells #[.slice A2 l.length c2] 24)) w.heap.size 24 (.slice A1 l.length c1) := (Boxed.new _ _ _).alloc _
  have b2 : Boxed ((w.alloc (.cells #[.slice A1 l.length c1] 24)).alloc (.cells #[.slice A2 l.length c2] 24)) (w.heap.size + 1) 24 (.slice A2 l.length c2) := by
    have := Boxed.new (w.alloc (.cells #[.slice A1 l.length c1] 24)) 24 (.slice A2 l.length c2)
    simpa only [World.size_alloc] using this
  have hB0 : Below w.heap.size w ((w.alloc (.cells #[.slice A1 l.length c1] 24)).alloc (.cells #[.slice A2 l.length c2] 24)) := ((Below.refl _ w).alloc (Nat.le_refl _) _).alloc (by simp) _
  obtain ⟨W0, hW0⟩ : ∃ W0, (w.alloc (.cells #[.slice A1 l.length c1] 24)).alloc (.cells #[.slice A2 l.length c2] 24) = W0 := ⟨_, rfl⟩
  rw [hW0] at b1 b2 hB0
  have B1 := Lib.hid b1
  have B2 := Lib.hid b2
  have m1 := b1.cell
  have m2 := b2.cell
  clear h1 h2 b1 b2
  go_enter Tryz.func12, Tryz.ntmps12
  go_wp2
  clear hW0
  go_loopw [5] (fun i wr => ∃ k : Nat, k ≤ l.length ∧ i = .int .i64 k ∧ Below W0.heap.size W0 wr) (fun i _ => l.length - (intOf i).toNat)
  case atStart => exact ⟨0, Nat.zero_le _, rfl, Below.refl _ _⟩
  case round =>
    obtain ⟨k, hk, rfl, hb⟩ := hrel
    have n1 := (boxed_ext hb B1.out).cell
    have n2 := (boxed_ext hb B2.out).cell
    by_cases hlt : k < l.length
    · obtain ⟨x, hx⟩ : ∃ x, l[k]? = some x := ⟨_, List.getElem?_eq_getElem hlt⟩
      obtain ⟨b1, o1, rfl, _, p1, p2, p3⟩ := (Nodes.lt H1.out (hb0to hB0 hb)).at_ hx
      obtain ⟨b2, o2, rfl, _, q1, q2, q3⟩ := (Nodes.lt H2.out (hb0to hB0 hb)).at_ hx
      have g1 := extB_cell n1
      have g2 := extB_cell n2
      have e1 := extB_cell p1
      have e2 := extB_cell p2
      have e3 := extB_cell p3
      have f1 := extB_cell q1
      have f2 := extB_cell q2
      have f3 := extB_cell q3
      have hq := neq46 x
      clear hx
      go_wp2
      refine wp_region_ext (by kernel_rfl) (by kernel_rfl) ?_
      repeat (go_big_quiet_step (fail))
      refine wpQuiet_nil ?_
      rintro _ ⟨x1, rfl⟩
      have hb1 := hb.trans ((extB_below wr x1).mono hb.size)
      go_wp2
      go_roundw
      case rel => exact ⟨k + 1, by omega, by go_num, hb1⟩
      case measure => simp [intOf]; omega
    · obtain rfl : k = l.length := by omega
      go_wp2
      go_ret
      exact ⟨rfl, hb0to hB0 hb⟩

set_option maxRecDepth 100000 in
set_option maxHeartbeats 1000000 in
theorem copy_is (A : Option Addr) (c : Nat) (ns : List Node) (hA : A = none → c = 0 ∧ ns = []) (hn : ns.length ≤ 1000) (w : World) (hN : Nodes w w.heap.size A ns) :
    Calls Tryz.prog 7 #[.agg #[.slice A ns.length c]] w fun e w' => ∃ A' c', e = .returned (.agg #[.slice A' ns.length c']) ∧ (A' = none → c' = 0 ∧ ns = []) ∧ Nodes w' w'.heap.size A' ns ∧ (∀ b o, A' = some ⟨b, o, none⟩ → w.heap.size ≤ b ∧ ∀ j, w'.frozen? ⟨b, j, none⟩ = false) ∧ Below w.heap.size w w' := by
  obtain ⟨i0, hi, hz0, hz1, hz2⟩ := info_parts info46
  obtain ⟨W0, hW0⟩ : ∃ W0, (w.alloc (.cells #[.slice A ns.length c] 24)).alloc (.cells #[.slice none 0 0] 24) = W0 := ⟨_, rfl⟩
  have b2 : Boxed W0 (w.heap.size + 1) 24 (.slice none 0 0) := by
    have := Boxed.new (w.alloc (.cells #[.slice A ns.length c] 24)) 24 (.slice none 0 0)
    rw [← hW0]; simpa only [World.size_alloc] using this
  have hB0 : Below w.heap.size w W0 := by rw [← hW0]; exact ((Below.refl _ w).alloc (Nat.le_refl _) _).alloc (by simp) _
  have b1 : Boxed W0 w.heap.size 24 (.slice A ns.length c) := by rw [← hW0]; exact (Boxed.new _ _ _).alloc _
  have hsz : W0.heap.size = w.heap.size + 2 := by rw [← hW0]; simp
  have ow := ownsN_made W0 69 W0.heap.size (Nat.le_refl _)
  have HN := Lib.hid (Nodes.alloc (Nodes.lt hN hB0) (.cells #[] 69))
  have HA := Lib.hid hA
  have m1 := (b1.alloc (.cells #[] 69)).cell
  have b2a := b2.alloc (.cells #[] 69)
  clear hN hA
  have hsz1 : w.heap.size + 2 ≤ W0.heap.size := by omega
  have hsz2 : W0.heap.size ≤ w.heap.size + 2 := by omega
  have W0S := Lib.hid hsz
  clear hsz
  go_enter Tryz.func7, Tryz.ntmps7
  go_wp2_with (at_builtin; go_must (refine wpl_copy rfl _ _ 22 69 Tryz.underlying22 hi hz0 hz1 hz2 rfl W0.heap.size _ rfl ow _ c ns HA.out rfl HN.out hn (by simp) ?_; intro v' w1 hown hb1; obtain ⟨A', c', rfl, hA', hN'⟩ := OwnsN.lay hown; have b3 : Boxed w1 (w.heap.size + 1) 24 (.slice none 0 0) := (hb1.block _ b2.lt).trans b2a; have m3 := b3.cell; have m4 := b3.frozen))
  have hBw : Below w.heap.size w w1 := hB0.trans ((((Below.refl _ W0).alloc (Nat.le_refl _) _).trans hb1).mono hB0.size)
  have z := (b3.set (.slice A' ns.length c')).cell
  refine bodyPost_ret (v := .agg #[.slice A' ns.length c']) (by simp [results, Tryz.results7, go_sem, z]) rfl ⟨A', c', rfl, hA', ?_, ?_, hBw.setCell (p := ⟨w.heap.size + 1, 0, none⟩) (by simp) _⟩
  · rcases hown.2 with ⟨e, h0⟩ | ⟨g, cap, cur, e, hg, hgb, _⟩
    · exact .inl (List.length_eq_zero_iff.1 h0)
    · cases e
      exact nodes_other hN' (p := ⟨w.heap.size + 1, 0, none⟩) (by show w.heap.size + 1 ≠ g; omega) _ (by simp)
  · intro b o e
    subst e
    rcases hown.2 with ⟨e, h0⟩ | ⟨g, cap, cur, e, hg, hgb, _⟩
    · cases e
    · cases e
      refine ⟨by omega, fun j => ?_⟩
      have h2 : ∀ v, (w1.setCell ⟨w.heap.size + 1, 0, none⟩ v).frozen? ⟨b, j, none⟩ = false := fun v => by
        have h3 := (Below.heap_setCell w1 ⟨w.heap.size + 1, 0, none⟩ v b (by show b ≠ w.heap.size + 1; omega)).trans hgb
        simp [World.frozen?, h3]
      exact h2 _
open Go.RowKit

def exC : List Node := [⟨-1, 0, 0⟩, ⟨0, 0, 3⟩, ⟨0, 1, 0⟩, ⟨0, 1, 0⟩, ⟨2, 2, 0⟩, ⟨2, 1, 0⟩, ⟨3, 1, 2⟩, ⟨3, 4, 0⟩]
def exD : List Node := [⟨-1, 0, 0⟩, ⟨0, 1, 0⟩, ⟨0, 1, 0⟩, ⟨0, 4, 0⟩, ⟨0, 4, 0⟩]
theorem nodes_lay {W : World} {g : Nat} {t : TypeId} {cells : Array Value} {ns : List Node} (h : W.heap[g]? = some (.cells cells t (0, 0))) (hc : cells = (nodeCells ns).toArray) : Nodes W W.heap.size (some ⟨g, 0, none⟩) ns := by
  refine .inr ⟨g, 0, rfl, (Array.getElem?_eq_some_iff.1 h).1, fun i x hx => ?_⟩
  obtain ⟨d1, d2, d3⟩ := nodeCells_at ns i x hx
  have hk : ∀ j v, (nodeCells ns)[j]? = some v → W.cell? ⟨g, j, none⟩ = some v := fun j v hj => by
    simp [World.cell?, h, hc, hj]
  rw [Nat.zero_add]
  exact ⟨hk _ _ d1, hk _ _ d2, hk _ _ d3⟩
set_option maxRecDepth 100000 in
set_option maxHeartbeats 4000000 in
theorem example_any (w : World) : Calls Tryz.prog 16 #[] w fun e w' => ∃ g h, e = .returned (.tuple #[.agg #[.slice (some ⟨g, 0, none⟩) 8 8], .agg #[.slice (some ⟨h, 0, none⟩) 5 5]]) ∧ Nodes w' w'.heap.size (some ⟨g, 0, none⟩) exC ∧ Nodes w' w'.heap.size (some ⟨h, 0, none⟩) exD ∧ Below w.heap.size w w' := by
  go_enter Tryz.func16, Tryz.ntmps16
  go_wp2
  go_region
  go_wp2
  have h1 := (World.alloc_heap_new ((w.alloc (.cells #[.slice (some ⟨w.heap.size + 1 + 1, 0, none⟩) 8 8] 24)).alloc (.cells #[.slice (some ⟨w.heap.size + 1 + 1 + 1, 0, none⟩) 5 5] 24)) (.cells (nodeCells exC).toArray 69))
  have h2 := World.alloc_heap_new (((w.alloc (.cells #[.slice (some ⟨w.heap.size + 1 + 1, 0, none⟩) 8 8] 24)).alloc (.cells #[.slice (some ⟨w.heap.size + 1 + 1 + 1, 0, none⟩) 5 5] 24)).alloc (.cells (nodeCells exC).toArray 69)) (.cells (nodeCells exD).toArray 69)
  have h3 := (Below.heap_alloc _ (.cells (nodeCells exD).toArray 69) _ (Array.getElem?_eq_some_iff.1 h1).1).trans h1
  simp only [World.size_alloc] at h2 h3
  have hb : Below w.heap.size w ((((w.alloc (.cells #[.slice (some ⟨w.heap.size + 1 + 1, 0, none⟩) 8 8] 24)).alloc (.cells #[.slice (some ⟨w.heap.size + 1 + 1 + 1, 0, none⟩) 5 5] 24)).alloc (.cells (nodeCells exC).toArray 69)).alloc (.cells (nodeCells exD).toArray 69)) := ((((Below.refl _ w).alloc (Nat.le_refl _) _).alloc (by simp) _).alloc (by simp; omega) _).alloc (by simp; omega) _
  refine bodyPost_ret (v := .tuple #[.agg #[.slice (some ⟨w.heap.size + 1 + 1, 0, none⟩) 8 8], .agg #[.slice (some ⟨w.heap.size + 1 + 1 + 1, 0, none⟩) 5 5]]) (by simp [results, Tryz.results16, go_sem]) rfl ⟨w.heap.size + 1 + 1, w.heap.size + 1 + 1 + 1, rfl, nodes_lay h3 rfl, nodes_lay h2 rfl, hb.drew⟩
open Go.RowKit
theorem exKeeps0 : penceE exC 42 = 0 := by kernel_rfl
theorem exKeeps : keptsS exC 42 = [0, 3, 0, 0, 14, 6, 6, 13] := by kernel_rfl
theorem exFrom : fromS exC 7 13 = (41, 0) := by kernel_rfl
theorem exFalls : fallsS exD 2 = (2, 0) := by kernel_rfl
theorem exExact : exactS exC 7 = ((2, 5), 0) := by kernel_rfl
theorem exWeights : wtsV exC 5 [⟨42, 5, 6⟩] = [1] := by kernel_rfl
theorem exWeights0 : wtsR exC 5 [⟨42, 5, 6⟩] = 0 := by kernel_rfl
theorem exAsk : askS exC 5 [] = (68, 0) := by kernel_rfl

theorem exK (g : Nat) (W : World) (hN : Nodes W W.heap.size (some ⟨g, 0, none⟩) exC) : Calls Tryz.prog 17 #[.agg #[.slice (some ⟨g, 0, none⟩) 8 8], .int .i64 42] W fun e w' =>
    ∃ b, e = .returned (.tuple #[.slice (some ⟨b, 0, none⟩) 8 8, .int .i64 0]) ∧ Row w' b [0, 3, 0, 0, 14, 6, 6, 13] ∧ Below W.heap.size W w' := by
  have h := keepsAll_ok (some ⟨g, 0, none⟩) 8 exC 42 (by decide) W hN exKeeps0
  rw [exKeeps] at h
  exact h.mono fun e w' ⟨b, he, _, hr, hb⟩ => ⟨b, he, hr, hb⟩
theorem exF (g : Nat) (W : World) (hN : Nodes W W.heap.size (some ⟨g, 0, none⟩) exC) : Calls Tryz.prog 18 #[.agg #[.slice (some ⟨g, 0, none⟩) 8 8], .int .i64 7, .int .i64 13] W fun e w' =>
    e = .returned (.tuple #[.int .i64 41, .int .i64 0]) ∧ Below W.heap.size W w' := by
  have h := from_any (some ⟨g, 0, none⟩) 8 exC 7 13 (by decide) W hN
  rw [exFrom] at h
  exact h
theorem exL (g : Nat) (W : World) (hN : Nodes W W.heap.size (some ⟨g, 0, none⟩) exD) : Calls Tryz.prog 19 #[.agg #[.slice (some ⟨g, 0, none⟩) 5 5], .int .i64 2] W fun e w' =>
    e = .returned (.tuple #[.int .i64 2, .int .i64 0]) ∧ Below W.heap.size W w' := by
  have h := falls_any (some ⟨g, 0, none⟩) 5 exD 2 (by decide) W hN
  rw [exFalls] at h
  exact h
theorem exX (g : Nat) (W : World) (hN : Nodes W W.heap.size (some ⟨g, 0, none⟩) exC) : Calls Tryz.prog 20 #[.agg #[.slice (some ⟨g, 0, none⟩) 8 8], .int .i64 7] W fun e w' =>
    e = .returned (.tuple #[.agg #[.int .i64 2, .int .i64 5], .int .i64 0]) ∧ Below W.heap.size W w' := by
  have h := exact_any (some ⟨g, 0, none⟩) 8 exC 7 (by decide) W hN
  rw [exExact] at h
  exact h
theorem exW (g p : Nat) (W : World) (hN : Nodes W W.heap.size (some ⟨g, 0, none⟩) exC) (hP : Nodes W W.heap.size (some ⟨p, 0, none⟩) [⟨42, 5, 6⟩]) : Calls Tryz.prog 21 #[.agg #[.slice (some ⟨g, 0, none⟩) 8 8], .int .i64 5, .slice (some ⟨p, 0, none⟩) 1 1] W fun e w' =>
    ∃ Ao co, e = .returned (.tuple #[.slice Ao 1 co, .int .i64 0]) ∧ IntsAt w' w'.heap.size Ao [1] ∧ Below W.heap.size W w' := by
  have h := weights_ok (some ⟨g, 0, none⟩) (some ⟨p, 0, none⟩) 8 1 exC [⟨42, 5, 6⟩] 5 (by decide) (by decide) W hN hP
  rw [exWeights, exWeights0] at h
  exact h
theorem exA (g : Nat) (W : World) (hN : Nodes W W.heap.size (some ⟨g, 0, none⟩) exC) : Calls Tryz.prog 22 #[.agg #[.slice (some ⟨g, 0, none⟩) 8 8], .int .i64 5, .slice none 0 0] W fun e w' =>
    e = .returned (.tuple #[.int .i64 68, .int .i64 0]) ∧ Below W.heap.size W w' := by
  have h := ask_ok (some ⟨g, 0, none⟩) none 8 0 exC [] 5 (by decide) (by decide) W hN nodes_nil
  rw [exAsk] at h
  exact h
theorem exS8 (Ao : Option Addr) (co p : Nat) (W : World) (h1 : IntsAt W W.heap.size Ao [0, 3, 0, 0, 14, 6, 6, 13]) (h2 : IntsAt W W.heap.size (some ⟨p, 0, none⟩) [0, 3, 0, 0, 14, 6, 6, 13]) :
    Calls Tryz.prog 11 #[.slice Ao 8 co, .slice (some ⟨p, 0, none⟩) 8 8] W fun e w' => e = .returned (.bool true) ∧ Below W.heap.size W w' :=
  sameInts_is Ao (some ⟨p, 0, none⟩) co 8 [0, 3, 0, 0, 14, 6, 6, 13] (by decide) W h1 h2
theorem exS1 (Ao : Option Addr) (co p : Nat) (W : World) (h1 : IntsAt W W.heap.size Ao [1]) (h2 : IntsAt W W.heap.size (some ⟨p, 0, none⟩) [1]) :
    Calls Tryz.prog 11 #[.slice Ao 1 co, .slice (some ⟨p, 0, none⟩) 1 1] W fun e w' => e = .returned (.bool true) ∧ Below W.heap.size W w' :=
  sameInts_is Ao (some ⟨p, 0, none⟩) co 1 [1] (by decide) W h1 h2
theorem row_lay {W : World} {g : Nat} {cells : Array Value} {l : List Int} (h : W.heap[g]? = some (.cells cells 3 (0, 0))) (hc : cells = cellsOf l) : Row W g l := by subst hc; exact h

theorem new8 (W : World) : IntsAt (W.alloc (.cells #[.int .i64 0, .int .i64 3, .int .i64 0, .int .i64 0, .int .i64 14, .int .i64 6, .int .i64 6, .int .i64 13] 3)) (W.alloc (.cells #[.int .i64 0, .int .i64 3, .int .i64 0, .int .i64 0, .int .i64 14, .int .i64 6, .int .i64 6, .int .i64 13] 3)).heap.size (some ⟨W.heap.size, 0, none⟩) [0, 3, 0, 0, 14, 6, 6, 13] := row_ints (row_lay (World.alloc_heap_new W _) rfl)
theorem new1 (W : World) : IntsAt (W.alloc (.cells #[.int .i64 1] 3)) (W.alloc (.cells #[.int .i64 1] 3)).heap.size (some ⟨W.heap.size, 0, none⟩) [1] := row_ints (row_lay (World.alloc_heap_new W _) rfl)
theorem below4 {a b c d e : World} (h1 : Below a.heap.size a b) (h2 : Below b.heap.size b c) (h3 : Below c.heap.size c d) (h4 : Below d.heap.size d e) : Below a.heap.size a e :=
  hb0to h1 (hb0to h2 (hb0to h3 h4))
set_option maxRecDepth 100000 in
theorem eq33 (x y : Int) (w : World) : (binOp .eql 53 (.agg #[.int .i64 x, .int .i64 y]) (.agg #[.int .i64 x, .int .i64 y])).run Tryz.prog w = .ok (.bool true) w := by
  simp [go_sem]
set_option maxRecDepth 100000 in
set_option maxHeartbeats 4000000 in
theorem works_any (w : World) : Calls Tryz.prog 6 #[] w fun e w' => e = .returned (.bool true) ∧ Below w.heap.size w w' := by
  have hq := eq33 2 5
  go_enter Tryz.func6, Tryz.ntmps6
  go_wp2_with (first
    | (go_at_call 16; go_must (refine (example_any _).mono ?_; rintro e w1 ⟨g, h, rfl, hC1, hD1, hb1⟩; have hC2 := Nodes.alloc (Nodes.alloc hC1 (.cells #[.slice (some ⟨g, 0, none⟩) 8 8] 24)) (.cells #[.slice (some ⟨h, 0, none⟩) 5 5] 24); have hD2 := Nodes.alloc (Nodes.alloc hD1 (.cells #[.slice (some ⟨g, 0, none⟩) 8 8] 24)) (.cells #[.slice (some ⟨h, 0, none⟩) 5 5] 24); have bC := (Boxed.new w1 24 (.slice (some ⟨g, 0, none⟩) 8 8)).alloc (.cells #[.slice (some ⟨h, 0, none⟩) 5 5] 24); have bD := Boxed.new (w1.alloc (.cells #[.slice (some ⟨g, 0, none⟩) 8 8] 24)) 24 (.slice (some ⟨h, 0, none⟩) 5 5)))
    | (go_at_call 17; go_must (refine (exK g _ hC2).mono ?_; rintro e w2 ⟨kb, rfl, hr2, hb2⟩; have hC3 := Nodes.lt hC2 hb2; have hD3 := Nodes.lt hD2 hb2; have bC3 := boxed_ext hb2 bC; have bD3 := boxed_ext hb2 bD; have m1 := bC3.cell))
    | (go_at_call 18; go_must (refine (exF g w2 hC3).mono ?_; rintro e w3 ⟨rfl, hb3⟩; have hC4 := Nodes.lt hC3 hb3; have hD4 := Nodes.lt hD3 hb3; have bC4 := boxed_ext hb3 bC3; have bD4 := boxed_ext hb3 bD3; have m2 := bD4.cell; rw [World.size_alloc] at m2))
    | (go_at_call 19; go_must (refine (exL h w3 hD4).mono ?_; rintro e w4 ⟨rfl, hb4⟩; have hC5 := Nodes.lt hC4 hb4; have bC5 := boxed_ext hb4 bC4; have m3 := bC5.cell))
    | (go_at_call 20; go_must (refine (exX g w4 hC5).mono ?_; rintro e w5 ⟨rfl, hb5⟩; have bC6 := (boxed_ext hb5 bC5).alloc (.cells #[.int .i64 2, .int .i64 5] 53); have m4 := bC6.cell; have hC6 := Nodes.alloc (Nodes.alloc (Nodes.lt hC5 hb5) (.cells #[.int .i64 2, .int .i64 5] 53)) (.cells #[.int .i64 42, .int .i64 5, .int .i64 6] 58); have hP6 : Nodes ((w5.alloc (.cells #[.int .i64 2, .int .i64 5] 53)).alloc (.cells #[.int .i64 42, .int .i64 5, .int .i64 6] 58)) ((w5.alloc (.cells #[.int .i64 2, .int .i64 5] 53)).alloc (.cells #[.int .i64 42, .int .i64 5, .int .i64 6] 58)).heap.size (some ⟨(w5.alloc (.cells #[.int .i64 2, .int .i64 5] 53)).heap.size, 0, none⟩) [⟨42, 5, 6⟩] := nodes_lay (World.alloc_heap_new (w5.alloc (.cells #[.int .i64 2, .int .i64 5] 53)) (.cells #[.int .i64 42, .int .i64 5, .int .i64 6] 58)) rfl; have t6 : Two (w5.alloc (.cells #[.int .i64 2, .int .i64 5] 53)) w5.heap.size 2 5 := World.alloc_heap_new w5 _; rw [World.size_alloc w5] at hP6))
    | (go_at_call 21; go_must (refine (exW g _ _ hC6 hP6).mono ?_; rintro e w6 ⟨Aw, cw, rfl, hIw, hb6⟩; have hb6' := ((Below.refl _ (w5.alloc (.cells #[.int .i64 2, .int .i64 5] 53))).alloc (Nat.le_refl _) (.cells #[.int .i64 42, .int .i64 5, .int .i64 6] 58)).trans (hb6.mono (by simp)); have bC7 := boxed_ext hb6' bC6; have m5 := bC7.cell; have hC7 := Nodes.lt hC6 hb6))
    | (go_at_call 22; go_must (refine (exA g w6 hC7).mono ?_; rintro e w7 ⟨rfl, hb7⟩; have hb67 := hb6'.trans (hb7.mono hb6'.size); have hb57 := ((Below.refl _ w5).alloc (Nat.le_refl _) (.cells #[.int .i64 2, .int .i64 5] 53)).trans (hb67.mono (by simp)); have hb27 := below4 hb3 hb4 hb5 hb57; have hI7 := ilt (ilt (row_ints hr2) hb27) ((Below.refl _ w7).alloc (Nat.le_refl _) (.cells #[.int .i64 0, .int .i64 3, .int .i64 0, .int .i64 0, .int .i64 14, .int .i64 6, .int .i64 6, .int .i64 13] 3)); have hJ7 := new8 w7; have hw7 := ilt (ilt hIw hb7) ((Below.refl _ w7).alloc (Nat.le_refl _) (.cells #[.int .i64 0, .int .i64 3, .int .i64 0, .int .i64 0, .int .i64 14, .int .i64 6, .int .i64 6, .int .i64 13] 3)); have t7 := (Two.below (Two.below t6 hb67 (Two.lt t6)) ((Below.refl _ w7).alloc (Nat.le_refl _) (.cells #[.int .i64 0, .int .i64 3, .int .i64 0, .int .i64 0, .int .i64 14, .int .i64 6, .int .i64 6, .int .i64 13] 3)) (Nat.lt_of_lt_of_le (Two.lt t6) hb67.size))))
    | (go_at_call 11; refine (exS1 _ _ _ _ hw9 hJ9).mono ?_; rintro e w10 ⟨rfl, hb10⟩)
    | (go_at_call 11; refine (exS8 _ _ _ _ hI7 hJ7).mono ?_; rintro e w9 ⟨rfl, hb9⟩; have t9 := Two.below t7 hb9 (Two.lt t7); have q0 := t9.c0; have q1 := t9.c1; have hw9 := ilt (ilt hw7 hb9) ((Below.refl _ w9).alloc (Nat.le_refl _) (.cells #[.int .i64 1] 3)); have hJ9 := new1 w9))
  go_ret
  refine ⟨rfl, ?_⟩
  have k1 := hb0to ((hb1.alloc hb1.size (.cells #[.slice (some ⟨g, 0, none⟩) 8 8] 24)).alloc (by have := hb1.size; simp; omega) (.cells #[.slice (some ⟨h, 0, none⟩) 5 5] 24)) hb2
  have k2 := hb0to k1 hb27
  have k3 := hb0to (k2.alloc k2.size _) hb9
  exact hb0to (k3.alloc k3.size _) hb10
open Go.RowKit

end Go.Proofs.YtmbcpmnigggbaaaGreat.Sh
namespace Go.Proofs.YtmbcpmnigggbaaaGreat.Sh
theorem lFin_at (R sm : Int) : ∀ (l : List (Int × Node)) (o : Int) (i : Nat) (p : Int × Node), l[i]? = some p →
    (lFin R sm o l)[i]?.getD 0 = p.1 + R * p.2.w / sm + (if 0 < p.2.w ∧ lPos ((l.take i).map (·.2)) < o then 1 else 0)
  | [], o, i, p, h => by simp at h
  | (b, x) :: xs, o, 0, p, h => by
    simp at h
    subst h
    simp only [lFin, List.take_zero, List.map_nil, lPos, List.sum_nil]
    split <;> simp
  | (b, x) :: xs, o, i + 1, p, h => by
    have hp : xs[i]? = some p := by simpa using h
    have hn := lPos_nonneg ((xs.take i).map (·.2))
    simp only [lFin]
    split
    · rename_i hc
      have e : lPos (((b, x) :: xs).take (i + 1) |>.map (·.2)) = 1 + lPos ((xs.take i).map (·.2)) := by
        simp only [List.take_succ_cons, List.map_cons, lPos, List.sum_cons, if_pos hc.1]
      rw [e, List.getElem?_cons_succ, lFin_at R sm xs (o - 1) i p hp]
      congr 1
      by_cases h1 : 0 < p.2.w ∧ lPos ((xs.take i).map (·.2)) < o - 1
      · rw [if_pos h1, if_pos ⟨h1.1, by omega⟩]
      · rw [if_neg h1, if_neg (fun h2 => h1 ⟨h2.1, by omega⟩)]
    · rename_i hc
      rw [List.getElem?_cons_succ, lFin_at R sm xs o i p hp]
      congr 1
      by_cases hw : 0 < x.w
      · have ho : ¬ 0 < o := fun h => hc ⟨hw, h⟩
        have hn2 := lPos_nonneg ((((b, x) :: xs).take (i + 1)).map (·.2))
        rw [if_neg (fun h2 => by omega), if_neg (fun h2 => by omega)]
      · have e : lPos ((((b, x) :: xs).take (i + 1)).map (·.2)) = lPos ((xs.take i).map (·.2)) := by
          simp only [List.take_succ_cons, List.map_cons, lPos, List.sum_cons, if_neg hw]; omega
        rw [e]

theorem look_at : ∀ (ks : List Nat) (vs : List Int) (i n : Nat), ks.Nodup → ks[i]? = some n → vs.length = ks.length → look n (ks.zip vs) = vs[i]?.getD 0
  | [], _, i, n, _, h, _ => by simp at h
  | k :: ks, [], _, _, _, _, hl => by simp at hl
  | k :: ks, v :: vs, 0, n, _, h, _ => by
    simp at h
    simp [look, h]
  | k :: ks, v :: vs, i + 1, n, hd, h, hl => by
    have h' : ks[i]? = some n := by simpa using h
    have hne : k ≠ n := fun e => (List.nodup_cons.1 hd).1 (e ▸ List.mem_of_getElem? h')
    simp only [List.zip_cons_cons, look]
    rw [if_neg hne, look_at ks vs i n (List.nodup_cons.1 hd).2 h' (by simpa using hl)]
    simp
/-! The specification's way of dividing: step by step. -/
theorem lFix_snoc : ∀ (l : List Node) (r : Int) (x : Node), lFix r (l ++ [x]) = ((lFix r l).1 ++ [gmin x.f (lFix r l).2], (lFix r l).2 - gmin x.f (lFix r l).2)
  | [], r, x => by simp [lFix]
  | y :: ys, r, x => by
    simp only [List.cons_append, lFix]
    rw [lFix_snoc ys]
def at0 (l : List Int) (i : Nat) : Int := l[i]?.getD 0
theorem at0_set (l : List Int) (i j : Nat) (v : Int) : at0 (l.set i v) j = if i = j ∧ j < l.length then v else at0 l j := set_getD l i j v
/-- The parts by the Weights, of the first i. -/
def partsTo (l : List Node) (R s : Int) (fx : List Int) : Nat → List Int
  | 0 => fx
  | i + 1 => (partsTo l R s fx i).set i (at0 (partsTo l R s fx i) i + R * (nodeAt l i).w / s)
theorem partsTo_len (l : List Node) (R s : Int) (fx : List Int) : ∀ i, (partsTo l R s fx i).length = fx.length
  | 0 => rfl
  | i + 1 => by simp [partsTo, partsTo_len l R s fx i]
theorem partsTo_at (l : List Node) (R s : Int) (fx : List Int) : ∀ i j, j < fx.length → at0 (partsTo l R s fx i) j = at0 fx j + (if j < i then R * (nodeAt l j).w / s else 0)
  | 0, j, _ => by simp [partsTo]
  | i + 1, j, hj => by
    have ih := partsTo_at l R s fx i j hj
    rw [partsTo, at0_set, partsTo_len]
    by_cases e : i = j
    · subst e
      rw [if_pos ⟨rfl, hj⟩, ih, if_neg (by omega), if_pos (by omega)]
      omega
    · rw [if_neg (fun h => e h.1), ih]
      by_cases h : j < i
      · rw [if_pos h, if_pos (by omega)]
      · rw [if_neg h, if_neg (by omega)]
def oddTo (l : List Node) (R s : Int) (i : Nat) : Int := R - ((l.take i).map fun x => R * x.w / s).sum
theorem oddTo_step {l : List Node} {R s : Int} {i : Nat} {x : Node} (hx : l[i]? = some x) : oddTo l R s (i + 1) = oddTo l R s i - R * x.w / s := by
  have : l.take (i + 1) = l.take i ++ [x] := by rw [List.take_add_one, hx]; rfl
  unfold oddTo
  rw [this, List.map_append, List.sum_append]
  simp
  omega
theorem quo_small {R w s : Int} (h0 : 0 ≤ R) (h1 : R ≤ 400) (hw : 0 ≤ w) (hw9 : w ≤ 9) (hs : 0 < s) : 0 ≤ R * w ∧ R * w ≤ 3600 ∧ 0 ≤ R * w / s ∧ R * w / s ≤ 3600 := by
  have a : 0 ≤ R * w := Int.mul_nonneg h0 hw
  have b : R * w ≤ 400 * 9 := Int.mul_le_mul h1 hw9 hw (by omega)
  have c := Int.ediv_nonneg a (show 0 ≤ s by omega)
  have d := Int.ediv_le_self s a
  omega
theorem oddTo_bd {l : List Node} {R s : Int} (h0 : 0 ≤ R) (h1 : R ≤ 400) (hs : 0 < s) (hw : ∀ x ∈ l, 0 ≤ x.w ∧ x.w ≤ 9) (hl : l.length ≤ 7) : ∀ i, i ≤ l.length → -(3600 * (i : Int)) ≤ oddTo l R s i ∧ oddTo l R s i ≤ 400
  | 0, _ => by simp [oddTo]; omega
  | i + 1, hi => by
    have ih := oddTo_bd h0 h1 hs hw hl i (by omega)
    have hx : l[i]? = some l[i] := List.getElem?_eq_getElem (by omega)
    have hb := hw _ (List.getElem_mem (show i < l.length by omega))
    have hq := quo_small h0 h1 hb.1 hb.2 hs
    rw [oddTo_step hx]
    omega
/-- One more for the first ones. -/
def onesTo (l : List Node) (st : List Int) (odd : Int) : Nat → List Int × Int
  | 0 => (st, odd)
  | i + 1 => if 0 < (nodeAt l i).w ∧ 0 < (onesTo l st odd i).2 then ((onesTo l st odd i).1.set i (at0 (onesTo l st odd i).1 i + 1), (onesTo l st odd i).2 - 1) else onesTo l st odd i
theorem onesTo_len (l : List Node) (st : List Int) (odd : Int) : ∀ i, (onesTo l st odd i).1.length = st.length
  | 0 => rfl
  | i + 1 => by
    rw [onesTo]
    split
    · simp [onesTo_len l st odd i]
    · exact onesTo_len l st odd i
theorem onesTo_stop {l : List Node} {st : List Int} {odd : Int} {i : Nat} (h : ¬ 0 < (onesTo l st odd i).2) : ∀ j, onesTo l st odd (i + j) = onesTo l st odd i
  | 0 => rfl
  | j + 1 => by
    have ih := onesTo_stop h j
    rw [← Nat.add_assoc, onesTo, ih, if_neg (fun h2 => h h2.2)]
theorem lPos_take {l : List Node} {i : Nat} (hi : i < l.length) : lPos (l.take (i + 1)) = lPos (l.take i) + (if 0 < (nodeAt l i).w then 1 else 0) := by
  have hx : l[i]? = some (nodeAt l i) := GoodC.at_ hi
  have : l.take (i + 1) = l.take i ++ [nodeAt l i] := by rw [List.take_add_one, hx]; rfl
  rw [this]
  simp [lPos]
theorem onesTo_odd {l : List Node} {st : List Int} {odd : Int} (ho : 0 ≤ odd) : ∀ i, i ≤ l.length → (0 < (onesTo l st odd i).2 ↔ lPos (l.take i) < odd) ∧ 0 ≤ (onesTo l st odd i).2 ∧ (onesTo l st odd i).2 ≤ odd ∧ (0 < (onesTo l st odd i).2 → (onesTo l st odd i).2 = odd - lPos (l.take i))
  | 0, _ => by simp [onesTo, lPos, ho]
  | i + 1, hi => by
    obtain ⟨h1, h2, h3, h4⟩ := onesTo_odd (l := l) (st := st) ho i (by omega)
    have hp := lPos_take (l := l) (show i < l.length by omega)
    rw [onesTo]
    by_cases hw : 0 < (nodeAt l i).w
    · rw [if_pos hw] at hp
      by_cases hO : 0 < (onesTo l st odd i).2
      · rw [if_pos ⟨hw, hO⟩]
        have := h4 hO
        simp only
        refine ⟨⟨fun h => by omega, fun h => by omega⟩, by omega, by omega, fun h => by omega⟩
      · rw [if_neg (fun h => hO h.2)]
        refine ⟨⟨fun h => by omega, fun h => by omega⟩, by omega, by omega, fun h => by omega⟩
    · rw [if_neg hw] at hp
      rw [if_neg (fun h => hw h.1), hp, Int.add_zero]
      exact ⟨h1, h2, h3, h4⟩
theorem onesTo_at {l : List Node} {st : List Int} {odd : Int} (ho : 0 ≤ odd) (hst : st.length = l.length) : ∀ i, i ≤ l.length → ∀ j, j < l.length → at0 (onesTo l st odd i).1 j = at0 st j + (if j < i ∧ 0 < (nodeAt l j).w ∧ lPos (l.take j) < odd then 1 else 0)
  | 0, _, j, _ => by simp [onesTo]
  | i + 1, hi, j, hj => by
    have ih := onesTo_at ho hst i (by omega) j hj
    have hO := (onesTo_odd (l := l) (st := st) ho i (show i ≤ l.length by omega)).1
    rw [onesTo]
    by_cases hc : 0 < (nodeAt l i).w ∧ 0 < (onesTo l st odd i).2
    · rw [if_pos hc, at0_set, onesTo_len]
      by_cases e : i = j
      · subst e
        rw [if_pos ⟨rfl, by omega⟩, ih, if_neg (by omega), if_pos ⟨by omega, hc.1, hO.1 hc.2⟩]
        omega
      · rw [if_neg (fun h => e h.1), ih]
        by_cases h : j < i ∧ 0 < (nodeAt l j).w ∧ lPos (l.take j) < odd
        · rw [if_pos h, if_pos ⟨by omega, h.2⟩]
        · rw [if_neg h, if_neg (fun h2 => h ⟨by omega, h2.2⟩)]
    · rw [if_neg hc, ih]
      by_cases h : j < i ∧ 0 < (nodeAt l j).w ∧ lPos (l.take j) < odd
      · rw [if_pos h, if_pos ⟨by omega, h.2⟩]
      · rw [if_neg h, if_neg]
        intro h2
        by_cases e : i = j
        · subst e; exact hc ⟨h2.2.1, hO.2 h2.2.2⟩
        · exact h ⟨by omega, h2.2⟩
/-- **The specification's way comes to splitL.** -/
theorem ones_split (l : List Node) (hw : ∀ x ∈ l, 0 ≤ x.w) (P : Int) (hs : 0 < lSum l) :
    (onesTo l (partsTo l (lFix P l).2 (lSum l) (lFix P l).1 l.length) (oddTo l (lFix P l).2 (lSum l) l.length) l.length).1 = (splitL P l).1 := by
  have ho : oddTo l (lFix P l).2 (lSum l) l.length = lOdd (lFix P l).2 (lSum l) l := by unfold oddTo lOdd; rw [List.take_length]
  have hodd := (lOdd_bd (lFix P l).2 l hw hs).1
  have hpl : (partsTo l (lFix P l).2 (lSum l) (lFix P l).1 l.length).length = l.length := by rw [partsTo_len, lFix_len]
  refine ext_getD (by rw [onesTo_len, hpl, splitL_len]) (fun j hj => ?_)
  rw [onesTo_len, hpl] at hj
  have h1 := onesTo_at (st := partsTo l (lFix P l).2 (lSum l) (lFix P l).1 l.length) (odd := oddTo l (lFix P l).2 (lSum l) l.length) (by rw [ho]; exact hodd) hpl l.length (Nat.le_refl _) j hj
  have h2 := partsTo_at l (lFix P l).2 (lSum l) (lFix P l).1 l.length j (by rw [lFix_len]; exact hj)
  have hx : l[j]? = some (nodeAt l j) := GoodC.at_ hj
  have hb : ((lFix P l).1.zip l)[j]? = some (at0 (lFix P l).1 j, nodeAt l j) := by
    rw [List.getElem?_zip_eq_some]
    refine ⟨?_, hx⟩
    simp only [at0]
    rw [List.getElem?_eq_getElem (by rw [lFix_len]; exact hj)]
    rfl
  have h3 := lFin_at (lFix P l).2 (lSum l) ((lFix P l).1.zip l) (lOdd (lFix P l).2 (lSum l) l) j _ hb
  change at0 _ j = _
  rw [h1, h2, splitL, if_pos hs]
  simp only
  rw [h3, if_pos hj, List.map_take, List.map_snd_zip (by rw [lFix_len]; exact Nat.le_refl _), ho]
  simp only [hj, true_and]
end Go.Proofs.YtmbcpmnigggbaaaGreat.Sh
