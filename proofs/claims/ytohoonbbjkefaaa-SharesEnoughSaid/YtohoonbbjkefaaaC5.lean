import Derived.Test.YtohoonbbjkefaaaC3
namespace Go.Proofs.Ytohoonbbjkefaaa
open Go.RowKit

theorem within1_is (n lo hi : Int) (w : World) (b : Bool) (hb : inR n lo hi = b) : Calls Try.prog 34 #[.int .i64 n, .int .i64 lo, .int .i64 hi] w fun e w' => e = .returned (.bool b) ∧ w = w' := by
  rw [← hb]; exact refWithin_any n lo hi w
set_option maxRecDepth 100000 in
set_option maxHeartbeats 4000000 in
/-- The law's own 'gets', at pence that can be. -/
theorem lawGets_ok (A : Option Addr) (c : Nat) (ns : List Node) (p : Int) (hn : ns.length ≤ 1000) (w : World) (hN : Nodes w w.heap.size A ns) (hz : penceE ns p = 0) :
    Calls Try.prog 35 #[.agg #[.slice A ns.length c], .int .i64 p] w fun e w' => ∃ b, e = .returned (.tuple #[.slice (some ⟨b, 0, none⟩) ns.length ns.length, .bool true]) ∧ Row w' b (gotsS ns p) ∧ Below w.heap.size w w' := by
  obtain ⟨hg, hp0, hp4⟩ := penceE_zero hz
  have bC := Boxed.new w 24 (.slice A ns.length c)
  have c1 := bC.cell
  have HG := Lib.hid (getsAll_ok A c ns p hn (w.alloc (.cells #[.slice A ns.length c] 24)) (Nodes.alloc hN _) hz)
  clear hz hN
  go_enter Try.func35, Try.ntmps35
  go_wp2_with (go_at_call 48; go_must (refine HG.out.mono ?_; rintro e w1 ⟨b, rfl, hb, hr, hb1⟩; have m1 := (boxed_ext hb1 bC).cell))
  have HR := Lib.hid hr
  clear hr
  go_loopw [8] (fun i wr => ∃ k : Nat, k ≤ ns.length ∧ i = .int .i64 k ∧ w1 = wr) (fun i _ => ns.length - (intOf i).toNat)
  case atStart => exact ⟨0, Nat.zero_le _, rfl, rfl⟩
  case round =>
    obtain ⟨k, hk, rfl, rfl⟩ := hrel
    by_cases hlt : k < ns.length
    · have e1 := Row.cell HR.out (k := k) (by rw [gotsS_len]; exact hlt)
      rw [gotsS_at hlt] at e1
      have hbd := gotS_bd hg hp0 k hlt
      have HI := Lib.hid (show inR (gotS ns p k) 0 p = true from inR_true.2 hbd)
      go_wp2_with (go_at_call 34; refine (within1_is _ _ _ _ _ HI.out).mono ?_; rintro e w' ⟨rfl, rfl⟩)
      go_roundw
      case rel => exact ⟨k + 1, by omega, by go_num, by trivial⟩
      case measure => simp [intOf]; omega
    · obtain rfl : k = ns.length := by omega
      go_wp2
      go_ret2
      exact ⟨b, rfl, HR.out, ((Below.refl _ w).alloc (Nat.le_refl _) _).trans (hb1.mono (by simp))⟩
end Go.Proofs.Ytohoonbbjkefaaa
