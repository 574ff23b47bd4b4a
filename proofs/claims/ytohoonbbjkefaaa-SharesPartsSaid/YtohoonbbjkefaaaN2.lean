import Derived.Test.YtohoonbbjkefaaaN1
import Derived.Test.YtohoonbbjkefaaaF8
import Derived.StillTailTactics
import Derived.Deep.RegionHeld3
import Derived.Deep.DeepCutAuto
namespace Go.Proofs.Ytohoonbbjkefaaa
open Go.RowKit

set_option maxRecDepth 100000 in
set_option maxHeartbeats 4000000 in
theorem reduced_big (num den : Int) (h0 : 0 ≤ num) (h1 : num ≤ 50000000000000) (h2 : 1 ≤ den) (h3 : den ≤ 50000000000000) (w : World) :
    Calls Try.prog 30 #[.int .i64 num, .int .i64 den] w fun e w' => e = .returned (.agg #[.int .i64 (redS (num, den)).1, .int .i64 (redS (num, den)).2]) ∧ Below w.heap.size w w' := by
  obtain ⟨W0, hW0⟩ : ∃ W0, w.alloc (.cells #[.int .i64 0, .int .i64 0] 33) = W0 := ⟨_, rfl⟩
  have b2 : Two W0 w.heap.size 0 0 := by rw [← hW0]; exact World.alloc_heap_new _ _
  have hB0 : Below w.heap.size w W0 := by rw [← hW0]; exact (Below.refl _ w).alloc (Nat.le_refl _) _
  have hmx : ¬ num < -num := by omega
  have hmx2 : -num ≤ num := by omega
  have hgp := gcd_pos (num := num) h2
  go_enter Try.func30, Try.ntmps30
  go_wp2
  clear hW0
  go_loopw [5, 6] (fun x y wr => ∃ a b : Int, x = .int .i64 a ∧ y = .int .i64 b ∧ 0 ≤ a ∧ a ≤ 50000000000000 ∧ 0 ≤ b ∧ b ≤ 50000000000000 ∧ Hid (Int.gcd a b = Int.gcd num den) ∧ Below W0.heap.size W0 wr)
    (fun _ y _ => (intOf y).toNat)
  case atStart => exact ⟨num, den, rfl, rfl, by omega, by omega, by omega, by omega, Lib.hid rfl, Below.refl _ _⟩
  case round =>
    obtain ⟨a, b, rfl, rfl, ha, ha2, hb, hbb, HG, hb4⟩ := hrel
    by_cases hb0 : 0 < b
    · have hbe : (b == 0) = false := by rw [beq_eq_false_iff_ne]; omega
      have hst := gcd_step (a := a) hb0
      have HG2 := Lib.hid (hst.1.trans HG.out)
      have h5 := hst.2.1
      have h6 := hst.2.2
      clear hst HG
      go_wp2
      refine wp_region_ext (by kernel_rfl) (by kernel_rfl) ?_
      repeat (go_big_quiet_step (fail))
      refine wpQuiet_nil ?_
      rintro _ ⟨x2, rfl⟩
      have hb5 := hb4.trans ((extB_below wr x2).mono hb4.size)
      go_wp2
      go_roundw
      case rel => exact ⟨b, _, rfl, rfl, by omega, by omega, h5, by omega, HG2, hb5⟩
      case measure => simp [intOf]; omega
    · obtain rfl : b = 0 := by omega
      have ea : (Int.gcd num den : Int) = a := by rw [← HG.out]; exact gcd_end ha
      have hapos : 0 < a := by omega
      have ha0 : (a == 0) = false := by rw [beq_eq_false_iff_ne]; omega
      have t1 := b2.below hb4 b2.lt
      have q1 := t1.c0
      have q2 := t1.c1
      have q3 := t1.fr
      have q4 := fun v => (t1.set0 v).c1
      have q5 := fun v => (t1.set0 v).fr
      have Q := Lib.hid t1.end_
      have hbf := hb0to hB0 hb4
      have EA := Lib.hid ea
      clear t1 HG ea
      go_wp2
      go_region
      go_wp2
      have z1 := (Q.out (num / a) (den / a)).c0
      have z2 := (Q.out (num / a) (den / a)).c1
      refine bodyPost_ret (v := .agg #[.int .i64 (num / a), .int .i64 (den / a)]) (by simp [results, Try.results30, go_sem, z1, z2]) rfl ⟨by rw [redS]; simp only; rw [EA.out], ?_⟩
      exact ((hbf.setCell (p := ⟨w.heap.size, 0, none⟩) (Nat.le_refl _) _).setCell (p := ⟨w.heap.size, 1, none⟩) (Nat.le_refl _) _).drew


theorem reduced_is (num den p q : Int) (h0 : 0 ≤ num) (h1 : num ≤ 50000000000000) (h2 : 1 ≤ den) (h3 : den ≤ 50000000000000) (h : redS (num, den) = (p, q)) (w : World) :
    Calls Try.prog 30 #[.int .i64 num, .int .i64 den] w fun e w' => e = .returned (.agg #[.int .i64 p, .int .i64 q]) ∧ Below w.heap.size w w' := by
  have := reduced_big num den h0 h1 h2 h3 w
  rw [h] at this
  exact this
set_option maxRecDepth 100000 in
theorem neq33 (x y : Int) (w : World) : (binOp .neq 33 (.agg #[.int .i64 x, .int .i64 y]) (.agg #[.int .i64 x, .int .i64 y])).run Try.prog w = .ok (.bool false) w := by
  simp [go_sem]
set_option maxRecDepth 100000 in
set_option maxHeartbeats 4000000 in
theorem isPart_ok (x y : Int) (h1 : 1 ≤ y) (h2 : y ≤ 4782969) (h3 : 0 ≤ x) (h4 : x ≤ y) (h5 : redS (x, y) = (x, y)) (w : World) :
    Calls Try.prog 28 #[.agg #[.int .i64 x, .int .i64 y]] w fun e w' => e = .returned (.bool true) ∧ Below w.heap.size w w' := by
  obtain ⟨W0, hW0⟩ : ∃ W0, w.alloc (.cells #[.int .i64 x, .int .i64 y] 33) = W0 := ⟨_, rfl⟩
  have b2 : Two W0 w.heap.size x y := by rw [← hW0]; exact World.alloc_heap_new _ _
  have hB0 : Below w.heap.size w W0 := by rw [← hW0]; exact (Below.refl _ w).alloc (Nat.le_refl _) _
  have l0 := extB_cell b2.c0
  have l1 := extB_cell b2.c1
  have hq := eq33 x y
  have g1 : decide (1 ≤ y) = true := decide_eq_true h1
  have g2 : decide (y ≤ 536870912) = true := decide_eq_true (by omega)
  have g3 : decide (0 ≤ x) = true := decide_eq_true h3
  have g4 : decide (x ≤ y) = true := decide_eq_true h4
  have H5 := Lib.hid h5
  clear h5
  go_enter Try.func28, Try.ntmps28
  go_wp2
  clear hW0
  refine wp_region_ext (by kernel_rfl) (by kernel_rfl) ?_
  repeat (go_big_quiet_step ((go_at_call 30; exact ext_call (reduced_is x y x y h3 (by omega) h1 (by omega) H5.out _))))
  refine wpQuiet_nil ?_
  rintro _ ⟨x1, rfl⟩
  have hb1 := extB_below W0 x1
  go_wp2
  go_ret
  exact ⟨rfl, hb0to hB0 hb1⟩
end Go.Proofs.Ytohoonbbjkefaaa
