import Derived.Test.YtohoonbbjkefaaaB12
namespace Go.Proofs.Ytohoonbbjkefaaa
open Go.RowKit

set_option maxRecDepth 100000 in
set_option maxHeartbeats 1000000 in
theorem sameInts_is (A1 A2 : Option Addr) (c1 c2 : Nat) (l : List Int) (hl : l.length ≤ 1000) (w : World) (h1 : IntsAt w w.heap.size A1 l) (h2 : IntsAt w w.heap.size A2 l) :
    Calls Try.prog 37 #[.slice A1 l.length c1, .slice A2 l.length c2] w fun e w' => e = .returned (.bool true) ∧ Below w.heap.size w w' := by
  have H1 := Lib.hid h1
  have H2 := Lib.hid h2
  clear h1 h2
  go_enter Try.func37, Try.ntmps37
  go_wp2
  go_loopw [5] (fun i wr => ∃ k : Nat, k ≤ l.length ∧ i = .int .i64 k ∧ Below w.heap.size w wr) (fun i _ => l.length - (intOf i).toNat)
  case atStart => exact ⟨0, Nat.zero_le _, rfl, Below.refl _ _⟩
  case round =>
    obtain ⟨k, hk, rfl, hb⟩ := hrel
    by_cases hlt : k < l.length
    · obtain ⟨x, hx⟩ : ∃ x, l[k]? = some x := ⟨_, List.getElem?_eq_getElem hlt⟩
      obtain ⟨b1, o1, rfl, _, d1⟩ := IntsAt.at_ (ilt H1.out hb) hx
      obtain ⟨b2, o2, rfl, _, d2⟩ := IntsAt.at_ (ilt H2.out hb) hx
      have e1 := extB_cell d1
      have e2 := extB_cell d2
      clear hx
      go_wp2
      refine wp_region_ext (by kernel_rfl) (by kernel_rfl) ?_
      repeat (go_big_quiet_step (fail))
      refine wpQuiet_nil ?_
      rintro _ ⟨x1, rfl⟩
      have hb1 := hb.trans ((extB_below wr x1).mono hb.size)
      go_wp2
      go_roundw
      case rel => exact ⟨k + 1, by omega, by go_num, hb1⟩
      case measure => simp [intOf]; omega
    · obtain rfl : k = l.length := by omega
      go_wp2
      go_ret
      exact ⟨rfl, hb⟩
set_option maxRecDepth 100000 in
theorem neq46 (x : Node) (w : World) : (binOp .neq 46 (.agg #[.int .i64 x.u, .int .i64 x.w, .int .i64 x.f]) (.agg #[.int .i64 x.u, .int .i64 x.w, .int .i64 x.f])).run Try.prog w = .ok (.bool false) w := by
  simp [go_sem]
set_option maxRecDepth 100000 in
theorem neq72 (x : Node) (w : World) : (binOp .neq 72 (.agg #[.int .i64 x.u, .int .i64 x.w, .int .i64 x.f]) (.agg #[.int .i64 x.u, .int .i64 x.w, .int .i64 x.f])).run Try.prog w = .ok (.bool false) w := by
  simp [go_sem]

set_option maxRecDepth 100000 in
set_option maxHeartbeats 1000000 in
theorem samePays_is (A1 A2 : Option Addr) (c1 c2 : Nat) (l : List Node) (hl : l.length ≤ 1000) (w : World) (h1 : Nodes w w.heap.size A1 l) (h2 : Nodes w w.heap.size A2 l) :
    Calls Try.prog 45 #[.slice A1 l.length c1, .slice A2 l.length c2] w fun e w' => e = .returned (.bool true) ∧ Below w.heap.size w w' := by
  have H1 := Lib.hid h1
  have H2 := Lib.hid h2
  clear h1 h2
  go_enter Try.func45, Try.ntmps45
  go_wp2
  go_loopw [5] (fun i wr => ∃ k : Nat, k ≤ l.length ∧ i = .int .i64 k ∧ Below w.heap.size w wr) (fun i _ => l.length - (intOf i).toNat)
  case atStart => exact ⟨0, Nat.zero_le _, rfl, Below.refl _ _⟩
  case round =>
    obtain ⟨k, hk, rfl, hb⟩ := hrel
    by_cases hlt : k < l.length
    · obtain ⟨x, hx⟩ : ∃ x, l[k]? = some x := ⟨_, List.getElem?_eq_getElem hlt⟩
      obtain ⟨b1, o1, rfl, _, p1, p2, p3⟩ := (Nodes.lt H1.out hb).at_ hx
      obtain ⟨b2, o2, rfl, _, q1, q2, q3⟩ := (Nodes.lt H2.out hb).at_ hx
      have e1 := extB_cell p1
      have e2 := extB_cell p2
      have e3 := extB_cell p3
      have f1 := extB_cell q1
      have f2 := extB_cell q2
      have f3 := extB_cell q3
      have hq := neq72 x
      clear hx
      go_wp2
      refine wp_region_ext (by kernel_rfl) (by kernel_rfl) ?_
      repeat (go_big_quiet_step (fail))
      refine wpQuiet_nil ?_
      rintro _ ⟨x1, rfl⟩
      have hb1 := hb.trans ((extB_below wr x1).mono hb.size)
      go_wp2
      go_roundw
      case rel => exact ⟨k + 1, by omega, by go_num, hb1⟩
      case measure => simp [intOf]; omega
    · obtain rfl : k = l.length := by omega
      go_wp2
      go_ret
      exact ⟨rfl, hb⟩

set_option maxRecDepth 100000 in
set_option maxHeartbeats 1000000 in
theorem same_is (A1 A2 : Option Addr) (c1 c2 : Nat) (l : List Node) (hl : l.length ≤ 1000) (w : World) (h1 : Nodes w w.heap.size A1 l) (h2 : Nodes w w.heap.size A2 l) :
    Calls Try.prog 25 #[.agg #[.slice A1 l.length c1], .agg #[.slice A2 l.length c2]] w fun e w' => e = .returned (.bool true) ∧ Below w.heap.size w w' := by
  have H1 := Lib.hid h1
  have H2 := Lib.hid h2
  have b1 : Boxed ((w.alloc (.cells #[.slice A1 l.length c1] 24)).alloc (.cells #[.slice A2 l.length c2] 24)) w.heap.size 24 (.slice A1 l.length c1) := (Boxed.new _ _ _).alloc _
  have b2 : Boxed ((w.alloc (.cells #[.slice A1 l.length c1] 24)).alloc (.cells #[.slice A2 l.length c2] 24)) (w.heap.size + 1) 24 (.slice A2 l.length c2) := by
    have := Boxed.new (w.alloc (.cells #[.slice A1 l.length c1] 24)) 24 (.slice A2 l.length c2)
    simpa only [World.size_alloc] using this
  have hB0 : Below w.heap.size w ((w.alloc (.cells #[.slice A1 l.length c1] 24)).alloc (.cells #[.slice A2 l.length c2] 24)) := ((Below.refl _ w).alloc (Nat.le_refl _) _).alloc (by simp) _
  obtain ⟨W0, hW0⟩ : ∃ W0, (w.alloc (.cells #[.slice A1 l.length c1] 24)).alloc (.cells #[.slice A2 l.length c2] 24) = W0 := ⟨_, rfl⟩
  rw [hW0] at b1 b2 hB0
  have B1 := Lib.hid b1
  have B2 := Lib.hid b2
  have m1 := b1.cell
  have m2 := b2.cell
  clear h1 h2 b1 b2
  go_enter Try.func25, Try.ntmps25
  go_wp2
  clear hW0
  go_loopw [5] (fun i wr => ∃ k : Nat, k ≤ l.length ∧ i = .int .i64 k ∧ Below W0.heap.size W0 wr) (fun i _ => l.length - (intOf i).toNat)
  case atStart => exact ⟨0, Nat.zero_le _, rfl, Below.refl _ _⟩
  case round =>
    obtain ⟨k, hk, rfl, hb⟩ := hrel
    have n1 := (boxed_ext hb B1.out).cell
    have n2 := (boxed_ext hb B2.out).cell
    by_cases hlt : k < l.length
    · obtain ⟨x, hx⟩ : ∃ x, l[k]? = some x := ⟨_, List.getElem?_eq_getElem hlt⟩
      obtain ⟨b1, o1, rfl, _, p1, p2, p3⟩ := (Nodes.lt H1.out (hb0to hB0 hb)).at_ hx
      obtain ⟨b2, o2, rfl, _, q1, q2, q3⟩ := (Nodes.lt H2.out (hb0to hB0 hb)).at_ hx
      have g1 := extB_cell n1
      have g2 := extB_cell n2
      have e1 := extB_cell p1
      have e2 := extB_cell p2
      have e3 := extB_cell p3
      have f1 := extB_cell q1
      have f2 := extB_cell q2
      have f3 := extB_cell q3
      have hq := neq46 x
      clear hx
      go_wp2
      refine wp_region_ext (by kernel_rfl) (by kernel_rfl) ?_
      repeat (go_big_quiet_step (fail))
      refine wpQuiet_nil ?_
      rintro _ ⟨x1, rfl⟩
      have hb1 := hb.trans ((extB_below wr x1).mono hb.size)
      go_wp2
      go_roundw
      case rel => exact ⟨k + 1, by omega, by go_num, hb1⟩
      case measure => simp [intOf]; omega
    · obtain rfl : k = l.length := by omega
      go_wp2
      go_ret
      exact ⟨rfl, hb0to hB0 hb⟩

theorem far_is (A : Option Addr) (n c : Nat) (w : World) (hn : n ≤ 140737488355328) (b : Bool) (hb : decide (40 < n) = b) : Calls Try.prog 16 #[.agg #[.slice A n c]] w fun e w' => e = .returned (.bool b) ∧ Below w.heap.size w w' := by
  go_enter Try.func16, Try.ntmps16
  go_wp2
  go_ret
  exact ⟨by rw [← hb]; simp; omega, (Below.refl _ w).alloc (Nat.le_refl _) _⟩

set_option maxRecDepth 100000 in
set_option maxHeartbeats 1000000 in
theorem paid_is (A : Option Addr) (c : Nat) (ps : List Node) (hA : A = none → c = 0 ∧ ps = []) (hn : ps.length ≤ 1000) (w : World) (hN : Nodes w w.heap.size A ps) :
    Calls Try.prog 38 #[.slice A ps.length c] w fun e w' => ∃ A' c', e = .returned (.slice A' ps.length c') ∧ (A' = none → c' = 0 ∧ ps = []) ∧ OwnsN w' 72 w.heap.size (.slice A' ps.length c') ps ∧ Below w.heap.size w w' := by
  obtain ⟨i0, hi, hz0, hz1, hz2⟩ := info_parts info72
  have ow := ownsN_made w 72 w.heap.size (Nat.le_refl _)
  have HN := Lib.hid (Nodes.alloc hN (.cells #[] 72))
  have HA := Lib.hid hA
  clear hN hA
  go_enter Try.func38, Try.ntmps38
  go_wp2_with (at_builtin; go_must (refine wpl_copy rfl _ _ 57 72 Try.underlying57 hi hz0 hz1 hz2 rfl w.heap.size _ rfl ow _ c ps HA.out rfl HN.out hn (by simp) ?_; intro v' w1 hown hb1))
  obtain ⟨A', c', rfl, hA', hN'⟩ := OwnsN.lay hown
  go_wp2
  go_ret
  exact ⟨A', c', rfl, hA', hown, ((Below.refl _ w).alloc (Nat.le_refl _) _).trans hb1⟩

set_option maxRecDepth 100000 in
set_option maxHeartbeats 1000000 in
theorem copy_is (A : Option Addr) (c : Nat) (ns : List Node) (hA : A = none → c = 0 ∧ ns = []) (hn : ns.length ≤ 1000) (w : World) (hN : Nodes w w.heap.size A ns) :
    Calls Try.prog 18 #[.agg #[.slice A ns.length c]] w fun e w' => ∃ A' c', e = .returned (.agg #[.slice A' ns.length c']) ∧ (A' = none → c' = 0 ∧ ns = []) ∧ Nodes w' w'.heap.size A' ns ∧ (∀ b o, A' = some ⟨b, o, none⟩ → w.heap.size ≤ b ∧ ∀ j, w'.frozen? ⟨b, j, none⟩ = false) ∧ Below w.heap.size w w' := by
  obtain ⟨i0, hi, hz0, hz1, hz2⟩ := info_parts info46
  obtain ⟨W0, hW0⟩ : ∃ W0, (w.alloc (.cells #[.slice A ns.length c] 24)).alloc (.cells #[.slice none 0 0] 24) = W0 := ⟨_, rfl⟩
  have b2 : Boxed W0 (w.heap.size + 1) 24 (.slice none 0 0) := by
    have := Boxed.new (w.alloc (.cells #[.slice A ns.length c] 24)) 24 (.slice none 0 0)
    rw [← hW0]; simpa only [World.size_alloc] using this
  have hB0 : Below w.heap.size w W0 := by rw [← hW0]; exact ((Below.refl _ w).alloc (Nat.le_refl _) _).alloc (by simp) _
  have b1 : Boxed W0 w.heap.size 24 (.slice A ns.length c) := by rw [← hW0]; exact (Boxed.new _ _ _).alloc _
  have hsz : W0.heap.size = w.heap.size + 2 := by rw [← hW0]; simp
  have ow := ownsN_made W0 46 W0.heap.size (Nat.le_refl _)
  have HN := Lib.hid (Nodes.alloc (Nodes.lt hN hB0) (.cells #[] 46))
  have HA := Lib.hid hA
  have m1 := (b1.alloc (.cells #[] 46)).cell
  have b2a := b2.alloc (.cells #[] 46)
  clear hN hA
  have hsz1 : w.heap.size + 2 ≤ W0.heap.size := by omega
  have hsz2 : W0.heap.size ≤ w.heap.size + 2 := by omega
  have W0S := Lib.hid hsz
  clear hsz
  go_enter Try.func18, Try.ntmps18
  go_wp2_with (at_builtin; go_must (refine wpl_copy rfl _ _ 22 46 Try.underlying22 hi hz0 hz1 hz2 rfl W0.heap.size _ rfl ow _ c ns HA.out rfl HN.out hn (by simp) ?_; intro v' w1 hown hb1; obtain ⟨A', c', rfl, hA', hN'⟩ := OwnsN.lay hown; have b3 : Boxed w1 (w.heap.size + 1) 24 (.slice none 0 0) := (hb1.block _ b2.lt).trans b2a; have m3 := b3.cell; have m4 := b3.frozen))
  have hBw : Below w.heap.size w w1 := hB0.trans ((((Below.refl _ W0).alloc (Nat.le_refl _) _).trans hb1).mono hB0.size)
  have z := (b3.set (.slice A' ns.length c')).cell
  refine bodyPost_ret (v := .agg #[.slice A' ns.length c']) (by simp [results, Try.results18, go_sem, z]) rfl ⟨A', c', rfl, hA', ?_, ?_, hBw.setCell (p := ⟨w.heap.size + 1, 0, none⟩) (by simp) _⟩
  · rcases hown.2 with ⟨e, h0⟩ | ⟨g, cap, cur, e, hg, hgb, _⟩
    · exact .inl (List.length_eq_zero_iff.1 h0)
    · cases e
      exact nodes_other hN' (p := ⟨w.heap.size + 1, 0, none⟩) (by show w.heap.size + 1 ≠ g; omega) _ (by simp)
  · intro b o e
    subst e
    rcases hown.2 with ⟨e, h0⟩ | ⟨g, cap, cur, e, hg, hgb, _⟩
    · cases e
    · cases e
      refine ⟨by omega, fun j => ?_⟩
      have h2 : ∀ v, (w1.setCell ⟨w.heap.size + 1, 0, none⟩ v).frozen? ⟨b, j, none⟩ = false := fun v => by
        have h3 := (Below.heap_setCell w1 ⟨w.heap.size + 1, 0, none⟩ v b (by show b ≠ w.heap.size + 1; omega)).trans hgb
        simp [World.frozen?, h3]
      exact h2 _
end Go.Proofs.Ytohoonbbjkefaaa
