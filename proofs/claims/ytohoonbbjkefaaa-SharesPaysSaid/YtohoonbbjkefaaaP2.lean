import Derived.Test.YtohoonbbjkefaaaP1
import Derived.Test.YtohoonbbjkefaaaK7
import Derived.Deep.DeepCutAuto
namespace Go.Proofs.Ytohoonbbjkefaaa
open Go.RowKit

set_option maxRecDepth 100000 in
set_option maxHeartbeats 4000000 in
theorem rising_ok (A : Option Addr) (c : Nat) (l : List Int) (hl : l.length ≤ 1000) (hp : l.Pairwise (· < ·)) (hb : ∀ x ∈ l, 0 ≤ x ∧ x ≤ 9) (w : World) (hI : IntsAt w w.heap.size A l) :
    Calls Try.prog 57 #[.slice A l.length c, .int .i64 0, .int .i64 9] w fun e w' => e = .returned (.bool true) ∧ Below w.heap.size w w' := by
  have HI := Lib.hid hI
  have HP := Lib.hid (List.pairwise_iff_getElem.1 hp)
  have HB := Lib.hid hb
  clear hI hp hb
  go_enter Try.func57, Try.ntmps57
  go_wp2
  go_loopw [7] (fun i wr => ∃ k : Nat, k ≤ l.length ∧ i = .int .i64 k ∧ Below w.heap.size w wr) (fun i _ => l.length - (intOf i).toNat)
  case atStart => exact ⟨0, Nat.zero_le _, rfl, Below.refl _ _⟩
  case round =>
    obtain ⟨k, hk, rfl, hbw⟩ := hrel
    by_cases hlt : k < l.length
    · obtain ⟨x, hx⟩ : ∃ x, l[k]? = some x := ⟨_, List.getElem?_eq_getElem hlt⟩
      have hx9 := HB.out x (List.mem_of_getElem? hx)
      have HW := Lib.hid (show inR x 0 9 = true from inR_true.2 hx9)
      cases k with
      | zero =>
        obtain ⟨b, off, rfl, _, c1⟩ := (ilt HI.out hbw).at_ hx
        rw [Nat.add_zero] at c1
        have e1 := extB_cell c1
        clear hx c1
        go_wp2
        refine wp_region_ext (by kernel_rfl) (by kernel_rfl) ?_
        repeat (go_big_quiet_step ((go_at_call 34; exact ext_same (within1_is _ _ _ _ _ HW.out))))

        refine wpQuiet_nil ?_
        rintro _ ⟨x1, rfl⟩
        have hb5 := hb0to hbw (extB_below wr x1)
        go_wp2
        go_roundw
        case rel => exact ⟨1, by omega, rfl, hb5⟩
        case measure => simp [intOf]; omega
      | succ j =>
        obtain ⟨y, hy⟩ : ∃ y, l[j]? = some y := ⟨_, List.getElem?_eq_getElem (by omega)⟩
        have hyx : y < x := by
          have := HP.out j (j + 1) (by omega) hlt (by omega)
          rw [List.getElem?_eq_getElem (by omega)] at hx hy
          rw [← Option.some.inj hx, ← Option.some.inj hy]
          exact this
        obtain ⟨b, off, rfl, _, c1⟩ := (ilt HI.out hbw).at_ hx
        obtain ⟨b', off', e, _, c0⟩ := (ilt HI.out hbw).at_ hy
        cases e
        have e1 := extB_cell c1
        have e0 := extB_cell c0
        have g1 : decide (x ≤ y) = false := decide_eq_false (by omega)
        have g2 : IntKind.i64.wrap ((j : Int) + 1 - 1) = (j : Int) := by rw [show (j : Int) + 1 - 1 = j by omega]; exact IntWalk.i64_in _ (by omega)
        have g3 : IntKind.i64.wrap (j : Int) = (j : Int) := IntWalk.i64_in _ (by omega)
        clear hx hy c1 c0
        go_wp2
        refine wp_region_ext (by kernel_rfl) (by kernel_rfl) ?_
        repeat (go_big_quiet_step ((go_at_call 34; exact ext_same (within1_is _ _ _ _ _ HW.out))))
        refine wpQuiet_nil ?_
        rintro _ ⟨x1, rfl⟩
        have hb5 := hb0to hbw (extB_below wr x1)
        go_wp2
        go_roundw
        case rel => exact ⟨j + 1 + 1, by omega, by go_num, hb5⟩
        case measure => simp [intOf]; omega
    · obtain rfl : k = l.length := by omega
      go_wp2
      go_ret
      exact ⟨rfl, hbw⟩
end Go.Proofs.Ytohoonbbjkefaaa
