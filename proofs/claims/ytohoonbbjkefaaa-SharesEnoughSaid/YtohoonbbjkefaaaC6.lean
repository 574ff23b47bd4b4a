import Derived.Test.YtohoonbbjkefaaaC4
import Derived.Test.YtohoonbbjkefaaaM5
namespace Go.Proofs.Ytohoonbbjkefaaa
open Go.RowKit

theorem far_big (A : Option Addr) (n c : Nat) (w : World) (hn : n ≤ 9223372036854775807) (b : Bool) (hb : decide (40 < n) = b) : Calls Try.prog 16 #[.agg #[.slice A n c]] w fun e w' => e = .returned (.bool b) ∧ Below w.heap.size w w' := by
  go_enter Try.func16, Try.ntmps16
  go_wp2
  go_ret
  exact ⟨by rw [← hb]; simp; omega, (Below.refl _ w).alloc (Nat.le_refl _) _⟩
theorem validB_len {ns : List Node} (h : validB ns = true) : ns.length ≤ 8 := by
  simp only [validB, Bool.and_eq_true, inR_true] at h
  omega
set_option maxRecDepth 100000 in
set_option maxHeartbeats 1000000 in
theorem ready_is (A : Option Addr) (c : Nat) (ns : List Node) (hn : ns.length ≤ 9223372036854775807) (w : World) (hN : Nodes w w.heap.size A ns) (v : Bool) (hv : validB ns = v) :
    Calls Try.prog 26 #[.agg #[.slice A ns.length c]] w fun e w' => e = .returned (.bool v) ∧ Below w.heap.size w w' := by
  have bC := Boxed.new w 24 (.slice A ns.length c)
  by_cases h40 : 40 < ns.length
  · have HF := Lib.hid (far_big A ns.length c (w.alloc (.cells #[.slice A ns.length c] 24)) hn true (by simpa using h40))
    have HV := Lib.hid (show v = false from by
      cases v with
      | false => rfl
      | true => have := validB_len hv; omega)
    clear hv
    go_enter Try.func26, Try.ntmps26
    go_wp2_with (go_at_call 16; go_must (refine HF.out.mono ?_; rintro e w1 ⟨rfl, hb1⟩))
    go_ret
    exact ⟨by rw [HV.out]; rfl, ((Below.refl _ w).alloc (Nat.le_refl _) _).trans (hb1.mono (by simp))⟩
  · have HF := Lib.hid (far_big A ns.length c (w.alloc (.cells #[.slice A ns.length c] 24)) hn false (by simpa using h40))
    have hN1 := Nodes.alloc hN (.cells #[.slice A ns.length c] 24)
    have HN1 := Lib.hid hN1
    clear hN hN1
    cases v
    · have hc := ckE_no hv
      have HC := Lib.hid hc
      clear hc hv
      go_enter Try.func26, Try.ntmps26
      go_wp2_with (first
        | (go_at_call 16; go_must (refine HF.out.mono ?_; rintro e w1 ⟨rfl, hb1⟩; have m1 := (boxed_ext hb1 bC).cell))
        | (go_at_call 47; go_must (refine (refCheck_any A c ns (by omega) w1 (Nodes.lt HN1.out hb1)).mono ?_; rintro e w2 ⟨rfl, hb2⟩; rw [HC.out])))
      go_ret
      exact ⟨rfl, ((Below.refl _ w).alloc (Nat.le_refl _) _).trans ((hb1.trans (hb2.mono hb1.size)).mono (by simp))⟩
    · have hc := ckE_yes hv
      have HC := Lib.hid hc
      clear hc hv
      go_enter Try.func26, Try.ntmps26
      go_wp2_with (first
        | (go_at_call 16; go_must (refine HF.out.mono ?_; rintro e w1 ⟨rfl, hb1⟩; have m1 := (boxed_ext hb1 bC).cell))
        | (go_at_call 47; go_must (refine (refCheck_any A c ns (by omega) w1 (Nodes.lt HN1.out hb1)).mono ?_; rintro e w2 ⟨rfl, hb2⟩; rw [HC.out])))
      go_ret
      exact ⟨rfl, ((Below.refl _ w).alloc (Nat.le_refl _) _).trans ((hb1.trans (hb2.mono hb1.size)).mono (by simp))⟩
theorem penceE_of {ns : List Node} (h : validB ns = true) {p : Int} (hp : 0 ≤ p ∧ p ≤ 400) : penceE ns p = 0 := by
  have hi : inR p 0 400 = true := inR_true.2 hp
  rw [penceE, hi, askE, h]
  simp

set_option maxRecDepth 100000 in
set_option maxHeartbeats 4000000 in
theorem penny_law (A : Option Addr) (c : Nat) (ns : List Node) (hn : ns.length ≤ 9223372036854775807) (p : Int) (w : World) (hN : Nodes w w.heap.size A ns) :
    Calls Try.prog 6 #[.agg #[.slice A ns.length c], .int .i64 p] w fun e w' => e = .returned (.bool true) ∧ Below w.heap.size w w' := by
  have bC := Boxed.new w 24 (.slice A ns.length c)
  have HN1 := Lib.hid (Nodes.alloc hN (.cells #[.slice A ns.length c] 24))
  clear hN
  cases hv : validB ns
  · have HR := Lib.hid (ready_is A c ns hn (w.alloc (.cells #[.slice A ns.length c] 24)) HN1.out false hv)
    clear hv
    go_enter Try.func6, Try.ntmps6
    go_wp2_with (first
      | (go_at_call 26; go_must (refine HR.out.mono ?_; rintro e w1 ⟨rfl, hb1⟩))
      | (go_at_call 17; go_must (refine (works_any w1).mono ?_; rintro e w2 ⟨rfl, hb2⟩)))
    go_ret
    exact ⟨rfl, ((Below.refl _ w).alloc (Nat.le_refl _) _).trans ((hb1.trans (hb2.mono hb1.size)).mono (by simp))⟩
  · have HR := Lib.hid (ready_is A c ns hn (w.alloc (.cells #[.slice A ns.length c] 24)) HN1.out true hv)
    cases hi : inR p 0 399
    · have HI := Lib.hid hi
      clear hv hi
      go_enter Try.func6, Try.ntmps6
      go_wp2_with (first
        | (go_at_call 26; go_must (refine HR.out.mono ?_; rintro e w1 ⟨rfl, hb1⟩))
        | (go_at_call 34; go_must (refine (within1_is _ _ _ _ _ HI.out).mono ?_; rintro e w' ⟨rfl, rfl⟩))
        | (go_at_call 17; go_must (refine (works_any w1).mono ?_; rintro e w2 ⟨rfl, hb2⟩)))
      go_ret
      exact ⟨rfl, ((Below.refl _ w).alloc (Nat.le_refl _) _).trans ((hb1.trans (hb2.mono hb1.size)).mono (by simp))⟩
    · have hp := inR_true.1 hi
      have hg := good_of hv
      have hn8 := validB_len hv
      have Z1 := Lib.hid (penceE_of hv (p := p) (by omega))
      have Z2 := Lib.hid (penceE_of hv (p := p + 1) (by omega))
      have HI := Lib.hid hi
      clear hv hi
      go_enter Try.func6, Try.ntmps6
      go_wp2_with (first
        | (go_at_call 26; go_must (refine HR.out.mono ?_; rintro e w1 ⟨rfl, hb1⟩; have bC1 := boxed_ext hb1 bC; have m1 := bC1.cell; have hN2 := Nodes.lt HN1.out hb1))
        | (go_at_call 34; go_must (refine (within1_is _ _ _ _ _ HI.out).mono ?_; rintro e w' ⟨rfl, rfl⟩))
        | (go_at_call 35; refine (lawGets_ok A c ns (p + 1) (by omega) w2 (Nodes.lt hN2 hb2) Z2.out).mono ?_; rintro e w3 ⟨k2, rfl, hr2, hb3⟩)
        | (go_at_call 35; go_must (refine (lawGets_ok A c ns p (by omega) w1 hN2 Z1.out).mono ?_; rintro e w2 ⟨k1, rfl, hr1, hb2⟩; have m2 := (boxed_ext hb2 bC1).cell)))
      have R1 := Lib.hid (Row.below hr1 hb3 (Row.lt hr1))
      have R2 := Lib.hid hr2
      have hb4 : Below w.heap.size w w3 := ((Below.refl _ w).alloc (Nat.le_refl _) _).trans ((hb0to hb1 (hb0to hb2 hb3)).mono (by simp))
      clear hr1 hr2
      go_loopw [9] (fun i wr => ∃ k : Nat, k ≤ ns.length ∧ i = .int .i64 k ∧ Below w3.heap.size w3 wr) (fun i _ => ns.length - (intOf i).toNat)
      case atStart => exact ⟨0, Nat.zero_le _, rfl, Below.refl _ _⟩
      case round =>
        obtain ⟨k, hk, rfl, hb⟩ := hrel
        by_cases hlt : k < ns.length
        · have e1 := Row.cell (Row.below R1.out hb (Row.lt R1.out)) (k := k) (by rw [gotsS_len]; exact hlt)
          have e2 := Row.cell (Row.below R2.out hb (Row.lt R2.out)) (k := k) (by rw [gotsS_len]; exact hlt)
          rw [gotsS_at hlt] at e1 e2
          have f1 := extB_cell e1
          have f2 := extB_cell e2
          have hbd := gotS_bd hg hp.1 k hlt
          have hbd2 := gotS_bd hg (show 0 ≤ p + 1 by omega) k hlt
          obtain ⟨n1, n2⟩ := gotS_near hg hp.1 k hlt
          have d1 : decide (gotS ns p k + 1 < gotS ns (p + 1) k) = false := decide_eq_false (by omega)
          have d2 : decide (gotS ns (p + 1) k < gotS ns p k - 1) = false := decide_eq_false (by omega)
          clear n1 n2
          go_wp2
          refine wp_region_ext (by kernel_rfl) (by kernel_rfl) ?_
          repeat (go_big_quiet_step (fail))
          refine wpQuiet_nil ?_
          rintro _ ⟨x1, rfl⟩
          have hb5 := hb.trans ((extB_below wr x1).mono hb.size)
          go_wp2
          go_roundw
          case rel => exact ⟨k + 1, by omega, by go_num, hb5⟩
          case measure => simp [intOf]; omega
        · obtain rfl : k = ns.length := by omega
          go_wp2_with (go_at_call 17; go_must (refine (works_any wr).mono ?_; rintro e w5 ⟨rfl, hb5⟩))
          go_ret
          exact ⟨rfl, hb0to (hb0to hb4 hb) hb5⟩
end Go.Proofs.Ytohoonbbjkefaaa
