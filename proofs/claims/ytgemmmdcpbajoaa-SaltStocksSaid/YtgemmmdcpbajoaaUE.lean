import Derived.Test.YtgemmmdcpbajoaaUD
namespace Go.Proofs.Ytgemmmdcpbajoaa
open Go.RowKit

set_option maxRecDepth 100000 in
set_option maxHeartbeats 1000000 in
theorem sameInts_is (A1 A2 : Option Addr) (c1 c2 : Nat) (l : List Int) (hl : l.length ≤ 1000) (w : World) (h1 : IntsAt w w.heap.size A1 l) (h2 : IntsAt w w.heap.size A2 l) :
    Calls Try.prog 35 #[.slice A1 l.length c1, .slice A2 l.length c2] w fun e w' => e = .returned (.bool true) ∧ Below w.heap.size w w' := by
  have H1 := Lib.hid h1
  have H2 := Lib.hid h2
  clear h1 h2
  go_enter Try.func35, Try.ntmps35
  go_wp2
  go_loopw [5] (fun i wr => ∃ k : Nat, k ≤ l.length ∧ i = .int .i64 k ∧ Below w.heap.size w wr) (fun i _ => l.length - (intOf i).toNat)
  case atStart => exact ⟨0, Nat.zero_le _, rfl, Below.refl _ _⟩
  case round =>
    obtain ⟨k, hk, rfl, hb⟩ := hrel
    by_cases hlt : k < l.length
    · obtain ⟨x, hx⟩ : ∃ x, l[k]? = some x := ⟨_, List.getElem?_eq_getElem hlt⟩
      obtain ⟨b1, o1, rfl, _, d1⟩ := IntsAt.at_ (ints_later H1.out hb) hx
      obtain ⟨b2, o2, rfl, _, d2⟩ := IntsAt.at_ (ints_later H2.out hb) hx
      have e1 := extB_cell d1
      have e2 := extB_cell d2
      clear hx
      go_wp2
      refine wp_region_ext (by kernel_rfl) (by kernel_rfl) ?_
      repeat (go_big_quiet_step (fail))
      refine wpQuiet_nil ?_
      rintro _ ⟨x1, rfl⟩
      have hb1 := hb.trans ((extB_below wr x1).mono hb.size)
      go_wp2
      go_roundw
      case rel => exact ⟨k + 1, by omega, by go_num, hb1⟩
      case measure => simp [intOf]; omega
    · obtain rfl : k = l.length := by omega
      go_wp2
      go_ret
      exact ⟨rfl, hb⟩

set_option maxRecDepth 100000 in
theorem neq88 (x : Int × Int) (w : World) : (binOp .neq 88 (.agg #[.int .i64 x.1, .int .i64 x.2]) (.agg #[.int .i64 x.1, .int .i64 x.2])).run Try.prog w = .ok (.bool false) w := by
  simp [go_sem]
set_option maxRecDepth 100000 in
theorem neq38 (x : Int × Int) (w : World) : (binOp .neq 38 (.agg #[.int .i64 x.1, .int .i64 x.2]) (.agg #[.int .i64 x.1, .int .i64 x.2])).run Try.prog w = .ok (.bool false) w := by
  simp [go_sem]
theorem two_boxes (w : World) (L1 L2 : HL) (h : House) : HBox ((w.alloc (.cells #[.slice L1.Ak h.ks.length L1.ck, .int .i64 h.fl, .slice L1.Ap h.ps.length L1.cp, .slice L1.Ab h.bs.length L1.cb] 26)).alloc (.cells #[.slice L2.Ak h.ks.length L2.ck, .int .i64 h.fl, .slice L2.Ap h.ps.length L2.cp, .slice L2.Ab h.bs.length L2.cb] 26)) w.heap.size L1 h ∧
    HBox ((w.alloc (.cells #[.slice L1.Ak h.ks.length L1.ck, .int .i64 h.fl, .slice L1.Ap h.ps.length L1.cp, .slice L1.Ab h.bs.length L1.cb] 26)).alloc (.cells #[.slice L2.Ak h.ks.length L2.ck, .int .i64 h.fl, .slice L2.Ap h.ps.length L2.cp, .slice L2.Ab h.bs.length L2.cb] 26)) (w.heap.size + 1) L2 h := by
  have c1 := HBox.new (w.alloc (.cells #[.slice L1.Ak h.ks.length L1.ck, .int .i64 h.fl, .slice L1.Ap h.ps.length L1.cp, .slice L1.Ab h.bs.length L1.cb] 26)) L2 h
  rw [World.size_alloc] at c1
  exact ⟨(HBox.new w L1 h).of (Below.heap_alloc _ _ _ (by simp)), c1⟩

set_option maxRecDepth 100000 in
set_option maxHeartbeats 4000000 in
theorem same_is (L1 L2 : HL) (h : House) (hn : h.ks.length ≤ 1000 ∧ h.ps.length ≤ 1000 ∧ h.bs.length ≤ 1000) (w : World) (h1 : HouseAt w w.heap.size L1 h) (h2 : HouseAt w w.heap.size L2 h) :
    Calls Try.prog 22 #[L1.enc h, L2.enc h] w fun e w' => e = .returned (.bool true) ∧ Below w.heap.size w w' := by
  have hB0 : Below w.heap.size w ((w.alloc (.cells #[.slice L1.Ak h.ks.length L1.ck, .int .i64 h.fl, .slice L1.Ap h.ps.length L1.cp, .slice L1.Ab h.bs.length L1.cb] 26)).alloc (.cells #[.slice L2.Ak h.ks.length L2.ck, .int .i64 h.fl, .slice L2.Ap h.ps.length L2.cp, .slice L2.Ab h.bs.length L2.cb] 26)) := ((Below.refl _ w).alloc (Nat.le_refl _) _).alloc (by simp) _
  obtain ⟨b1, b2⟩ := two_boxes w L1 L2 h
  obtain ⟨n1, n2, n3⟩ := hn
  obtain ⟨W0, hW0⟩ : ∃ W0, (w.alloc (.cells #[.slice L1.Ak h.ks.length L1.ck, .int .i64 h.fl, .slice L1.Ap h.ps.length L1.cp, .slice L1.Ab h.bs.length L1.cb] 26)).alloc (.cells #[.slice L2.Ak h.ks.length L2.ck, .int .i64 h.fl, .slice L2.Ap h.ps.length L2.cp, .slice L2.Ab h.bs.length L2.cb] 26) = W0 := ⟨_, rfl⟩
  rw [hW0] at b1 b2 hB0
  have H1 := Lib.hid (h1.below hB0)
  have H2 := Lib.hid (h2.below hB0)
  have HS := Lib.hid (sameInts_is L1.Ab L2.Ab L1.cb L2.cb h.bs n3 W0 H1.out.b H2.out.b)
  have B1 := Lib.hid b1
  have B2 := Lib.hid b2
  have m1 := b1.cells
  have m2 := b2.cells
  have HW0 := Lib.hid hW0
  have HB0 := Lib.hid hB0
  clear h1 h2 b1 b2 hW0 hB0
  obtain ⟨Ak, ck, Ap, cp, Ab, cb⟩ := L1
  obtain ⟨Bk, dk, Bp, dp, Bb, db⟩ := L2
  go_enter Try.func22, Try.ntmps22
  go_upto_region 1 with (fail)
  have e := HW0.out
  rw [e]
  clear e
  go_wp2_with (go_at_call 35; refine (HS.out).mono ?_; rintro e w1 ⟨rfl, hb1⟩; have HB1 := Lib.hid hb1; clear hb1)
  clear m1 m2
  go_loopw [5] (fun i wr => ∃ k : Nat, k ≤ h.ks.length ∧ i = .int .i64 k ∧ Below W0.heap.size W0 wr) (fun i _ => h.ks.length - (intOf i).toNat)
  case atStart => exact ⟨0, Nat.zero_le _, rfl, HB1.out⟩
  case round =>
    obtain ⟨k, hk, rfl, hb⟩ := hrel
    have n1 := (B1.out.of (hb.block _ B1.out.lt)).cells
    have n2 := (B2.out.of (hb.block _ B2.out.lt)).cells
    by_cases hlt : k < h.ks.length
    · obtain ⟨x, hx⟩ : ∃ x, h.ks[k]? = some x := ⟨_, List.getElem?_eq_getElem hlt⟩
      obtain ⟨b1, o1, rfl, _, p1, p2⟩ := PairsAt.at_ (H1.out.below hb).k hx
      obtain ⟨b2, o2, rfl, _, q1, q2⟩ := PairsAt.at_ (H2.out.below hb).k hx
      have g1 := extB_cell n1.1
      have g2 := extB_cell n2.1
      have e1 := extB_cell p1
      have e2 := extB_cell p2
      have f1 := extB_cell q1
      have f2 := extB_cell q2
      have hq := neq88 x
      clear hx
      go_wp2
      refine wp_region_ext (by kernel_rfl) (by kernel_rfl) ?_
      repeat (go_big_quiet_step (fail))
      refine wpQuiet_nil ?_
      rintro _ ⟨x1, rfl⟩
      have hb1 := hb.trans ((extB_below wr x1).mono hb.size)
      go_wp2
      go_roundw
      case rel => exact ⟨k + 1, by omega, by go_num, hb1⟩
      case measure => simp [intOf]; omega
    · obtain rfl : k = h.ks.length := by omega
      go_wp2
      go_loopw [6] (fun i wr => ∃ k : Nat, k ≤ h.ps.length ∧ i = .int .i64 k ∧ Below W0.heap.size W0 wr) (fun i _ => h.ps.length - (intOf i).toNat)
      case atStart => exact ⟨0, Nat.zero_le _, rfl, hb⟩
      case round =>
        clear n1 n2 hb
        obtain ⟨k, hk, rfl, hb⟩ := hrel
        have n1 := (B1.out.of (hb.block _ B1.out.lt)).cells
        have n2 := (B2.out.of (hb.block _ B2.out.lt)).cells
        by_cases hlt : k < h.ps.length
        · obtain ⟨x, hx⟩ : ∃ x, h.ps[k]? = some x := ⟨_, List.getElem?_eq_getElem hlt⟩
          obtain ⟨b1, o1, rfl, _, p1, p2⟩ := PairsAt.at_ (H1.out.below hb).p hx
          obtain ⟨b2, o2, rfl, _, q1, q2⟩ := PairsAt.at_ (H2.out.below hb).p hx
          have g1 := extB_cell n1.2.2.1
          have g2 := extB_cell n2.2.2.1
          have e1 := extB_cell p1
          have e2 := extB_cell p2
          have f1 := extB_cell q1
          have f2 := extB_cell q2
          have hq := neq38 x
          clear hx
          go_wp2
          refine wp_region_ext (by kernel_rfl) (by kernel_rfl) ?_
          repeat (go_big_quiet_step (fail))
          refine wpQuiet_nil ?_
          rintro _ ⟨x1, rfl⟩
          have hb1 := hb.trans ((extB_below wr x1).mono hb.size)
          go_wp2
          go_roundw
          case rel => exact ⟨k + 1, by omega, by go_num, hb1⟩
          case measure => simp [intOf]; omega
        · obtain rfl : k = h.ps.length := by omega
          go_wp2
          go_ret
          exact ⟨rfl, hb0to HB0.out hb⟩
end Go.Proofs.Ytgemmmdcpbajoaa
