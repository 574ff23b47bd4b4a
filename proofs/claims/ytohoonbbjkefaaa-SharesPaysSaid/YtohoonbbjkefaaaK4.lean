import Derived.Test.YtohoonbbjkefaaaK3
import Derived.Test.YtohoonbbjkefaaaN9
import Derived.Deep.DeepCutAuto
namespace Go.Proofs.Ytohoonbbjkefaaa
open Go.RowKit

theorem setW_put (ns : List Node) (k : Nat) (x : Int) : setW ns k x = ns.set k ⟨(nodeAt ns k).u, x, (nodeAt ns k).f⟩ := rfl
set_option maxRecDepth 100000 in
set_option maxHeartbeats 4000000 in
theorem weighing_any (A : Option Addr) (c : Nat) (ns : List Node) (k : Nat) (x : Int) (hA : A = none → c = 0 ∧ ns = []) (hk : k < ns.length) (hn : ns.length ≤ 1000) (w : World) (hN : Nodes w w.heap.size A ns) :
    Calls Try.prog 80 #[.agg #[.slice A ns.length c], .int .i64 k, .int .i64 x] w fun e w' => ∃ g off cap, e = .returned (.agg #[.slice (some ⟨g, off, none⟩) ns.length cap]) ∧ Nodes w' w'.heap.size (some ⟨g, off, none⟩) (setW ns k x) ∧ Below w.heap.size w w' := by
  obtain ⟨W0, hW0⟩ : ∃ W0, (w.alloc (.cells #[.slice A ns.length c] 24)).alloc (.cells #[.slice none 0 0] 24) = W0 := ⟨_, rfl⟩
  have E0 : Env w A c ns W0 := by rw [← hW0]; exact (Env.new c hN).alloc _
  have b6 : Boxed W0 (w.heap.size + 1) 24 (.slice none 0 0) := by
    have := Boxed.new (w.alloc (.cells #[.slice A ns.length c] 24)) 24 (.slice none 0 0)
    rw [← hW0]; simpa only [World.size_alloc] using this
  have q0 := E0.bC.cell
  have hsz : w.heap.size + 1 < W0.heap.size := b6.lt
  have EH := Lib.hid E0
  have B6 := Lib.hid b6
  have HA := Lib.hid hA
  have h1 : 1 ≤ ns.length := by omega
  clear E0 hN hA b6
  go_enter Try.func80, Try.ntmps80
  go_upto_region 2 with (go_at_call 18; go_must (refine (copy_is A c ns HA.out hn W0 EH.out.hN).mono ?_; rintro e w1 ⟨A', c', rfl, hA', hN', hfr, hb1⟩))
  obtain ⟨b, off, rfl⟩ : ∃ b off, A' = some ⟨b, off, none⟩ := by
    rcases hN' with h | ⟨b, off, h, _⟩
    · rw [h] at h1; simp at h1
    · exact ⟨b, off, h⟩
  obtain ⟨hgb, hfz⟩ := hfr b off rfl
  have hbl := nodes_blk hN' h1
  have B3 := Boxed.new w1 24 (.slice (some ⟨b, off, none⟩) ns.length c')
  have N2 := Nodes.alloc hN' (.cells #[.slice (some ⟨b, off, none⟩) ns.length c'] 24)
  have R2 := (boxed_ext hb1 B6.out).alloc (.cells #[.slice (some ⟨b, off, none⟩) ns.length c'] 24)
  have hb2 : Below W0.heap.size W0 (w1.alloc (.cells #[.slice (some ⟨b, off, none⟩) ns.length c'] 24)) := hb1.alloc hb1.size _
  have FZ : ∀ j, (w1.alloc (.cells #[.slice (some ⟨b, off, none⟩) ns.length c'] 24)).frozen? ⟨b, j, none⟩ = false := fun j => (((Below.refl _ w1).alloc (Nat.le_refl _) (.cells #[.slice (some ⟨b, off, none⟩) ns.length c'] 24)).frozen (p := ⟨b, j, none⟩) hbl).trans (hfz j)
  have hw1 : w1.heap.size < (w1.alloc (.cells #[.slice (some ⟨b, off, none⟩) ns.length c'] 24)).heap.size := by simp
  obtain ⟨W2, hW2⟩ : ∃ W2, w1.alloc (.cells #[.slice (some ⟨b, off, none⟩) ns.length c'] 24) = W2 := ⟨_, rfl⟩
  rw [hW2] at B3 N2 R2 hb2 FZ hw1 ⊢
  clear hW2 hfr hN' hfz hA' q0 hW0
  obtain ⟨y, hy⟩ : ∃ y, nodeAt ns k = y := ⟨_, rfl⟩
  obtain ⟨b', off', e, hbl2, c1, c2, c3⟩ := N2.at_ (GoodC.at_ hk)
  cases e
  rw [hy] at c1 c2 c3
  have HY := Lib.hid hy
  have m2 := B3.cell
  have nb := World.new_ne W2 _ c1
  have n2 := World.new_ne W2 _ m2
  have hA4 := (Below.refl _ W2).alloc (Nat.le_refl _) (.cells #[.int .i64 y.u, .int .i64 y.w, .int .i64 y.f] 46)
  have m4 := below_cell hA4 m2
  have hA5 := (Below.refl _ W2).alloc (Nat.le_refl _) (.cells #[.int .i64 y.u, .int .i64 x, .int .i64 y.f] 46)
  have m5 := below_cell hA5 m2
  have d1 := below_cell hA5 c1
  have d2 := below_cell hA5 c2
  have d3 := below_cell hA5 c3
  have P1 : Boxed (putN W2 b (off + k * 3) ⟨y.u, x, y.f⟩) w1.heap.size 24 (.slice (some ⟨b, off, none⟩) ns.length c') := boxed_put B3 (show w1.heap.size ≠ b by omega) _ _
  have P2 : Boxed (putN W2 b (off + k * 3) ⟨y.u, x, y.f⟩) (w.heap.size + 1) 24 (.slice none 0 0) := boxed_put R2 (show w.heap.size + 1 ≠ b by omega) _ _
  have N5 := nodes_put N2 hk ⟨y.u, x, y.f⟩
  have r1 := (P1.alloc (.cells #[.int .i64 y.u, .int .i64 x, .int .i64 y.f] 46)).cell
  have r2 := (P2.alloc (.cells #[.int .i64 y.u, .int .i64 x, .int .i64 y.f] 46)).cell
  have r3 := (P2.alloc (.cells #[.int .i64 y.u, .int .i64 x, .int .i64 y.f] 46)).frozen
  have r4 := ((P2.alloc (.cells #[.int .i64 y.u, .int .i64 x, .int .i64 y.f] 46)).set (.slice (some ⟨b, off, none⟩) ns.length c')).cell
  have PB := Lib.hid ((putN_below hb2 hgb (off + k * 3) ⟨y.u, x, y.f⟩).alloc (by rw [putN_size]; exact hb2.size) (.cells #[.int .i64 y.u, .int .i64 x, .int .i64 y.f] 46))
  have NH := Lib.hid (Nodes.alloc (by rw [putN_size]; exact N5) (.cells #[.int .i64 y.u, .int .i64 x, .int .i64 y.f] 46))
  unfold putN at r1 r2 r3 r4
  simp only at r1 r2 r3 r4
  clear B3 N2 R2 N5 P1 P2 hy
  go_wp2
  refine bodyPost_ret (v := .agg #[.slice (some ⟨b, off, none⟩) ns.length c']) (by simp [results, Try.results80, go_sem, r4]) rfl ⟨b, off, ⟨c', rfl⟩, ?_, ?_⟩
  · have := nodes_other NH.out (p := ⟨w.heap.size + 1, 0, none⟩) (by show w.heap.size + 1 ≠ b; omega) (.slice (some ⟨b, off, none⟩) ns.length c') (Nat.le_refl _)
    rw [setW_put, HY.out]
    exact Nodes.more this (by simp [putN])
  · exact (hb0to EH.out.hb PB.out).setCell (p := ⟨w.heap.size + 1, 0, none⟩) (by show w.heap.size ≤ w.heap.size + 1; omega) _
end Go.Proofs.Ytohoonbbjkefaaa
