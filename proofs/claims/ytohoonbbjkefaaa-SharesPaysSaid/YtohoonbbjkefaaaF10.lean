import Derived.Test.YtohoonbbjkefaaaF7
import Derived.Deep.RegionHeld3
import Derived.Deep.RegionWith
import Derived.Deep.OwnRows
import Derived.Deep.DeepMust
namespace Go.Proofs.Ytohoonbbjkefaaa
open Go.RowKit

def gotsTo (ns : List Node) (P : Int) (k : Nat) : List Int := (List.range k).map (gotS ns P)
theorem gotsTo_succ (ns : List Node) (P : Int) (k : Nat) : gotsTo ns P (k + 1) = gotsTo ns P k ++ [gotS ns P k] := by simp [gotsTo, List.range_succ]
def keptsTo (ns : List Node) (P : Int) (k : Nat) : List Int := (List.range k).map (keptS ns P)
theorem keptsTo_succ (ns : List Node) (P : Int) (k : Nat) : keptsTo ns P (k + 1) = keptsTo ns P k ++ [keptS ns P k] := by simp [keptsTo, List.range_succ]

set_option maxRecDepth 100000 in
set_option maxHeartbeats 4000000 in
theorem refGets_ok (A : Option Addr) (c : Nat) (ns : List Node) (p : Int) (hn : ns.length ≤ 1000) (w : World) (hN : Nodes w w.heap.size A ns) (hz : penceE ns p = 0) :
    Calls Try.prog 49 #[.agg #[.slice A ns.length c], .int .i64 p] w fun e w' => ∃ B d, e = .returned (.tuple #[.slice B ns.length d, .int .i64 0]) ∧ IntsAt w' w'.heap.size B (gotsS ns p) ∧ Below w.heap.size w w' := by
  obtain ⟨hg, hp0, hp4⟩ := penceE_zero hz
  obtain ⟨W0, hW0⟩ : ∃ W0, w.alloc (.cells #[.slice A ns.length c] 24) = W0 := ⟨_, rfl⟩
  have E0 : Env w A c ns W0 := by rw [← hW0]; exact Env.new c hN
  have EH := Lib.hid E0
  have l1 := extB_cell E0.bC.cell
  have g1 : inR p 0 400 = true := inR_true.2 ⟨hp0, hp4⟩
  have G1 := Lib.hid g1
  have HE : Hid (askE ns true [] = 0) := Lib.hid (by rw [← g1]; exact hz)
  clear hz g1 E0 hN
  go_enter Try.func49, Try.ntmps49
  go_wp2
  clear hW0
  refine wp_region_ext (by kernel_rfl) (by kernel_rfl) ?_
  repeat (go_big_quiet_step (first
    | (go_at_call 32; exact ext_same (refIsPence_is _ _ _ G1.out))
    | (go_at_call 66; exact ext_call (refAsk_is _ _ ns _ hn _ (Nodes.lt EH.out.hN (extB_below _ _)) _ HE.out))))
  refine wpQuiet_nil ?_
  rintro _ ⟨x1, rfl⟩
  obtain ⟨W1, hW1⟩ : ∃ W1, extB W0 x1 = W1 := ⟨_, rfl⟩
  have E1 := Lib.hid (EH.out.next (extB_below W0 x1))
  rw [hW1] at E1 ⊢
  clear hW1 l1
  go_wp2
  go_loopw [7, 8] (fun v i wr => ∃ k : Nat, k ≤ ns.length ∧ i = .int .i64 k ∧ Hid (Ints wr W1.heap.size v (gotsTo ns p k)) ∧ Below W1.heap.size W1 wr) (fun _ i _ => ns.length - (intOf i).toNat)
  case atStart => exact ⟨0, Nat.zero_le _, rfl, Lib.hid (ints_nil _ _), Below.refl _ _⟩
  case round =>
    obtain ⟨k, hk, rfl, HV, hb⟩ := hrel
    have HE1 := Lib.hid (E1.out.next hb)
    have q0 := HE1.out.bC.cell
    have hwr : W1.heap.size ≤ wr.heap.size := hb.size
    by_cases hlt : k < ns.length
    · have HC := Lib.hid (getsOf_is A c ns p hg hp0 hp4 k wr hlt HE1.out.hN)
      have hlen : (gotsTo ns p k).length ≤ 1000 := by simp [gotsTo]; omega
      go_wp2_with (first
        | (go_at_call 67; go_must (refine HC.out.mono ?_; rintro e w2 ⟨rfl, hb2⟩))
        | (at_builtin; go_must (refine wpl_app rfl (.tmp 23) (.tmp 28) rfl W1.heap.size W1.heap.size _ (gotsTo ns p k) (gotS ns p k) rfl (Ints.below_ HV.out (hb2.alloc hb2.size _) (Nat.le_refl _)) ⟨w2.heap.size, 0, none⟩ 1 rfl (Boxed.cell (Boxed.new w2 3 (.int .i64 (gotS ns p k)))) hlen (by have := hb2.size; simp; omega) (Nat.le_refl _) ?_; intro v' w4 hown4 hb7)))
      go_roundw
      case rel => exact ⟨k + 1, by omega, by go_num, Lib.hid (by rw [gotsTo_succ]; exact hown4), (hb.trans (hb2.mono hwr)).trans (((Below.refl _ w2).alloc (Nat.le_trans hwr hb2.size) _).trans hb7)⟩
      case measure => simp [intOf]; omega
    · obtain rfl : k = ns.length := by omega
      obtain ⟨A3, c3, rfl, _, hI3⟩ := Ints.lay HV.out
      have HI3 := Lib.hid hI3
      have HLN := Lib.hid (show (gotsTo ns p ns.length).length = ns.length from by simp [gotsTo])
      clear hI3
      go_wp2
      go_ret2
      exact ⟨A3, c3, by rw [← HLN.out]; simp [gotsTo], HI3.out, HE1.out.hb⟩

set_option maxRecDepth 100000 in
set_option maxHeartbeats 8000000 in
theorem keepsOf_any (A : Option Addr) (c : Nat) (ns : List Node) (p : Int) (hg : GoodC ns) (hp0 : 0 ≤ p) (hp4 : p ≤ 400) (w : World) (hN : Nodes w w.heap.size A ns) :
    Calls Try.prog 85 #[.agg #[.slice A ns.length c], .int .i64 p] w fun e w' => ∃ B d, e = .returned (.slice B ns.length d) ∧ IntsAt w' w'.heap.size B (keptsS ns p) ∧ Below w.heap.size w w' := by
  have EH := Lib.hid (Env.new c hN)
  have hl8 := hg.l8
  have hsz1 : w.heap.size + 1 ≤ (w.alloc (.cells #[.slice A ns.length c] 24)).heap.size := by simp
  clear hN
  go_enter Try.func85, Try.ntmps85
  go_wp2
  go_loopw [5, 6, 7, 8] (fun v i _ _ wr => ∃ k : Nat, k ≤ ns.length ∧ i = .int .i64 k ∧ Hid (Ints wr (w.heap.size + 1) v (keptsTo ns p k)) ∧ Below (w.heap.size + 1) (w.alloc (.cells #[.slice A ns.length c] 24)) wr) (fun _ i _ _ _ => ns.length - (intOf i).toNat)
  case atStart => exact ⟨0, Nat.zero_le _, rfl, Lib.hid (ints_nil _ _), Below.refl _ _⟩
  case round =>
    obtain ⟨k, hk, rfl, HV, hb⟩ := hrel
    have HE1 := Lib.hid (EH.out.next (hb.mono (by simp)))
    have q0 := HE1.out.bC.cell
    have hwr : w.heap.size + 1 ≤ wr.heap.size := Nat.le_trans hsz1 hb.size
    by_cases hlt : k < ns.length
    · have HC := Lib.hid (getsOf_is A c ns p hg hp0 hp4 k wr.drew hlt (HE1.out.next (drew_below wr)).hN)
      have E1 := Lib.hid (HE1.out.next (drew_below wr))
      have hbd := gotS_bd hg hp0 k hlt
      have hlen : (keptsTo ns p k).length ≤ 1000 := by simp [keptsTo]; omega
      go_wp2
      go_region_with (first
        | (go_at_call 67; go_must (refine HC.out.mono ?_; rintro e w2 ⟨rfl, hb2⟩; have E2 := E1.out.next hb2; have r1 := E2.bC.cell))
        | (go_at_call 86; go_must (refine (splitOf_any A c ns k (gotS ns p k) hg hbd.1 (by omega) w2 E2.hN).mono ?_; rintro e w3 ⟨B, d, rfl, hI, hb3⟩; have E3 := E2.next hb3)))
      all_goals
        have hbr3 : Below wr.heap.size wr w3 := (drew_below wr).trans ((hb2.trans (hb3.mono hb2.size)).mono (Nat.le_refl _))
        clear q0 r1 E2 hI
        go_wp2_with (at_builtin; go_must (refine wpl_app rfl (.tmp 26) (.tmp 28) rfl (w.heap.size + 1) (w.heap.size + 1) _ (keptsTo ns p k) (keptS ns p k) rfl (Ints.below_ HV.out (hbr3.alloc hbr3.size _) (Nat.le_refl _)) ⟨w3.heap.size, 0, none⟩ 1 rfl (Boxed.cell (Boxed.new w3 3 (.int .i64 (keptS ns p k)))) hlen (by have := hbr3.size; simp; omega) (Nat.le_refl _) ?_; intro v' w4 hown4 hb7))
        go_roundw
        case rel => exact ⟨k + 1, by omega, by go_num, Lib.hid (by rw [keptsTo_succ]; exact hown4), (hb.trans (hbr3.mono hwr)).trans (((Below.refl _ w3).alloc (Nat.le_trans hwr hbr3.size) _).trans hb7)⟩
        case measure => simp [intOf]; omega
    · obtain rfl : k = ns.length := by omega
      obtain ⟨A3, c3, rfl, _, hI3⟩ := Ints.lay HV.out
      have HI3 := Lib.hid hI3
      clear hI3
      go_wp2
      go_ret
      exact ⟨A3, c3, by simp [keptsTo], HI3.out, HE1.out.hb⟩
end Go.Proofs.Ytohoonbbjkefaaa
namespace Go.Proofs.Ytohoonbbjkefaaa
open Go.RowKit

set_option maxRecDepth 100000 in
set_option maxHeartbeats 4000000 in
theorem refGets_no (A : Option Addr) (c : Nat) (ns : List Node) (p : Int) (hn : ns.length ≤ 1000) (w : World) (hN : Nodes w w.heap.size A ns) (hz : penceE ns p ≠ 0) :
    Calls Try.prog 49 #[.agg #[.slice A ns.length c], .int .i64 p] w fun e w' => e = .returned (.tuple #[.slice none 0 0, .int .i64 (penceE ns p)]) ∧ Below w.heap.size w w' := by
  obtain ⟨ee, hee⟩ : ∃ ee, penceE ns p = ee := ⟨_, rfl⟩
  rw [hee] at hz ⊢
  have hz2 : (ee != 0) = true := by simpa using hz
  obtain ⟨W0, hW0⟩ : ∃ W0, w.alloc (.cells #[.slice A ns.length c] 24) = W0 := ⟨_, rfl⟩
  have E0 : Env w A c ns W0 := by rw [← hW0]; exact Env.new c hN
  have EH := Lib.hid E0
  have l1 := extB_cell E0.bC.cell
  clear E0 hN
  cases g1 : inR p 0 400
  all_goals
    have G1 := Lib.hid g1
    rw [penceE, g1] at hee
    have HE := Lib.hid hee
    clear hee g1
    go_enter Try.func49, Try.ntmps49
    go_wp2
    clear hW0
    refine wp_region_ext (by kernel_rfl) (by kernel_rfl) ?_
    repeat (go_big_quiet_step (first
      | (go_at_call 32; exact ext_same (refIsPence_is _ _ _ G1.out))
      | (go_at_call 66; exact ext_call (refAsk_is _ _ ns _ hn _ (Nodes.lt EH.out.hN (extB_below _ _)) _ HE.out))))
    refine wpQuiet_nil ?_
    rintro _ ⟨x1, rfl⟩
    have hb1 := (EH.out.next (extB_below W0 x1)).hb
    go_wp2
    go_ret2
    exact ⟨rfl, hb1⟩
set_option maxRecDepth 100000 in
set_option maxHeartbeats 4000000 in
theorem refKeeps_no (A : Option Addr) (c : Nat) (ns : List Node) (p : Int) (hn : ns.length ≤ 1000) (w : World) (hN : Nodes w w.heap.size A ns) (hz : penceE ns p ≠ 0) :
    Calls Try.prog 51 #[.agg #[.slice A ns.length c], .int .i64 p] w fun e w' => e = .returned (.tuple #[.slice none 0 0, .int .i64 (penceE ns p)]) ∧ Below w.heap.size w w' := by
  obtain ⟨ee, hee⟩ : ∃ ee, penceE ns p = ee := ⟨_, rfl⟩
  rw [hee] at hz ⊢
  have hz2 : (ee != 0) = true := by simpa using hz
  obtain ⟨W0, hW0⟩ : ∃ W0, w.alloc (.cells #[.slice A ns.length c] 24) = W0 := ⟨_, rfl⟩
  have E0 : Env w A c ns W0 := by rw [← hW0]; exact Env.new c hN
  have EH := Lib.hid E0
  have l1 := extB_cell E0.bC.cell
  clear E0 hN
  cases g1 : inR p 0 400
  all_goals
    have G1 := Lib.hid g1
    rw [penceE, g1] at hee
    have HE := Lib.hid hee
    clear hee g1
    go_enter Try.func51, Try.ntmps51
    go_wp2
    clear hW0
    refine wp_region_ext (by kernel_rfl) (by kernel_rfl) ?_
    repeat (go_big_quiet_step (first
      | (go_at_call 32; exact ext_same (refIsPence_is _ _ _ G1.out))
      | (go_at_call 66; exact ext_call (refAsk_is _ _ ns _ hn _ (Nodes.lt EH.out.hN (extB_below _ _)) _ HE.out))))
    refine wpQuiet_nil ?_
    rintro _ ⟨x1, rfl⟩
    have hb1 := (EH.out.next (extB_below W0 x1)).hb
    go_wp2
    go_ret2
    exact ⟨rfl, hb1⟩
set_option maxRecDepth 100000 in
set_option maxHeartbeats 4000000 in
theorem refKeeps_ok (A : Option Addr) (c : Nat) (ns : List Node) (p : Int) (hn : ns.length ≤ 1000) (w : World) (hN : Nodes w w.heap.size A ns) (hz : penceE ns p = 0) :
    Calls Try.prog 51 #[.agg #[.slice A ns.length c], .int .i64 p] w fun e w' => ∃ B d, e = .returned (.tuple #[.slice B ns.length d, .int .i64 0]) ∧ IntsAt w' w'.heap.size B (keptsS ns p) ∧ Below w.heap.size w w' := by
  obtain ⟨hg, hp0, hp4⟩ := penceE_zero hz
  obtain ⟨W0, hW0⟩ : ∃ W0, w.alloc (.cells #[.slice A ns.length c] 24) = W0 := ⟨_, rfl⟩
  have E0 : Env w A c ns W0 := by rw [← hW0]; exact Env.new c hN
  have EH := Lib.hid E0
  have l1 := extB_cell E0.bC.cell
  have g1 : inR p 0 400 = true := inR_true.2 ⟨hp0, hp4⟩
  have G1 := Lib.hid g1
  have HE : Hid (askE ns true [] = 0) := Lib.hid (by rw [← g1]; exact hz)
  clear hz g1 E0 hN
  go_enter Try.func51, Try.ntmps51
  go_wp2
  clear hW0
  refine wp_region_ext (by kernel_rfl) (by kernel_rfl) ?_
  repeat (go_big_quiet_step (first
    | (go_at_call 32; exact ext_same (refIsPence_is _ _ _ G1.out))
    | (go_at_call 66; exact ext_call (refAsk_is _ _ ns _ hn _ (Nodes.lt EH.out.hN (extB_below _ _)) _ HE.out))))
  refine wpQuiet_nil ?_
  rintro _ ⟨x1, rfl⟩
  obtain ⟨W1, hW1⟩ : ∃ W1, extB W0 x1 = W1 := ⟨_, rfl⟩
  have E1 := Lib.hid (EH.out.next (extB_below W0 x1))
  rw [hW1] at E1 ⊢
  have q0 := E1.out.bC.cell
  clear hW1 l1
  go_wp2_with (go_at_call 85; go_must (refine (keepsOf_any A c ns p hg hp0 hp4 W1 E1.out.hN).mono ?_; rintro e w2 ⟨B, d, rfl, hI, hb2⟩))
  go_ret2
  exact ⟨B, d, rfl, hI, (E1.out.next hb2).hb⟩

/-- The error of Split. -/
def splitE (ns : List Node) (node p : Int) : Int := askE ns (inR node 0 (ns.length - 1) && inR p 0 400) []
theorem splitE_zero {ns : List Node} {node p : Int} (h : splitE ns node p = 0) : GoodC ns ∧ (0 ≤ node ∧ node ≤ ns.length - 1) ∧ 0 ≤ p ∧ p ≤ 400 := by
  obtain ⟨z1, z2, _, _⟩ := askE_zero h
  rw [Bool.and_eq_true, inR_true, inR_true] at z2
  exact ⟨good_of z1, z2.1, z2.2⟩
set_option maxRecDepth 100000 in
set_option maxHeartbeats 4000000 in
theorem refSplit_ok (A : Option Addr) (c : Nat) (ns : List Node) (m : Nat) (p : Int) (hn : ns.length ≤ 1000) (w : World) (hN : Nodes w w.heap.size A ns) (hz : splitE ns m p = 0) :
    Calls Try.prog 52 #[.agg #[.slice A ns.length c], .int .i64 m, .int .i64 p] w fun e w' => ∃ B d, e = .returned (.tuple #[.slice B (kidsN ns m).length d, .int .i64 (splitL p (kidL ns m)).2, .int .i64 0]) ∧ IntsAt w' w'.heap.size B (splitL p (kidL ns m)).1 ∧ Below w.heap.size w w' := by
  obtain ⟨hg, hm, hp0, hp4⟩ := splitE_zero hz
  obtain ⟨W0, hW0⟩ : ∃ W0, w.alloc (.cells #[.slice A ns.length c] 24) = W0 := ⟨_, rfl⟩
  have E0 : Env w A c ns W0 := by rw [← hW0]; exact Env.new c hN
  have EH := Lib.hid E0
  have l1 := extB_cell E0.bC.cell
  have g1 : inR (m : Int) 0 (ns.length - 1) = true := inR_true.2 hm
  have g2 : inR p 0 400 = true := inR_true.2 ⟨hp0, hp4⟩
  have G1 := Lib.hid g1
  have G2 := Lib.hid g2
  have HE : Hid (askE ns true [] = 0) := Lib.hid (by rw [splitE, g1, g2] at hz; exact hz)
  clear hz g1 g2 E0 hN
  go_enter Try.func52, Try.ntmps52
  go_wp2
  clear hW0
  refine wp_region_ext (by kernel_rfl) (by kernel_rfl) ?_
  repeat (go_big_quiet_step (first
    | (go_at_call 27; exact ext_call (refIsNode_is _ _ _ _ _ hn _ G1.out))
    | (go_at_call 32; exact ext_same (refIsPence_is _ _ _ G2.out))
    | (go_at_call 66; exact ext_call (refAsk_is _ _ ns _ hn _ (Nodes.lt EH.out.hN (extB_below _ _)) _ HE.out))))
  refine wpQuiet_nil ?_
  rintro _ ⟨x1, rfl⟩
  obtain ⟨W1, hW1⟩ : ∃ W1, extB W0 x1 = W1 := ⟨_, rfl⟩
  have E1 := Lib.hid (EH.out.next (extB_below W0 x1))
  rw [hW1] at E1 ⊢
  have q0 := E1.out.bC.cell
  clear hW1 l1
  go_wp2_with (go_at_call 86; go_must (refine (splitOf_any A c ns m p hg hp0 hp4 W1 E1.out.hN).mono ?_; rintro e w2 ⟨B, d, rfl, hI, hb2⟩))
  go_ret3
  exact ⟨B, d, rfl, hI, (E1.out.next hb2).hb⟩
set_option maxRecDepth 100000 in
set_option maxHeartbeats 4000000 in
theorem refSplit_no (A : Option Addr) (c : Nat) (ns : List Node) (node p : Int) (hn : ns.length ≤ 1000) (w : World) (hN : Nodes w w.heap.size A ns) (hz : splitE ns node p ≠ 0) :
    Calls Try.prog 52 #[.agg #[.slice A ns.length c], .int .i64 node, .int .i64 p] w fun e w' => e = .returned (.tuple #[.slice none 0 0, .int .i64 0, .int .i64 (splitE ns node p)]) ∧ Below w.heap.size w w' := by
  obtain ⟨ee, hee⟩ : ∃ ee, splitE ns node p = ee := ⟨_, rfl⟩
  rw [hee] at hz ⊢
  have hz2 : (ee != 0) = true := by simpa using hz
  obtain ⟨W0, hW0⟩ : ∃ W0, w.alloc (.cells #[.slice A ns.length c] 24) = W0 := ⟨_, rfl⟩
  have E0 : Env w A c ns W0 := by rw [← hW0]; exact Env.new c hN
  have EH := Lib.hid E0
  have l1 := extB_cell E0.bC.cell
  clear E0 hN
  cases g1 : inR node 0 (ns.length - 1) <;> cases g2 : inR p 0 400
  all_goals
    have G1 := Lib.hid g1
    have G2 := Lib.hid g2
    rw [splitE, g1, g2] at hee
    simp only [Bool.and_true, Bool.and_false] at hee
    have HE := Lib.hid hee
    clear hee g1 g2
    go_enter Try.func52, Try.ntmps52
    go_wp2
    clear hW0
    refine wp_region_ext (by kernel_rfl) (by kernel_rfl) ?_
    repeat (go_big_quiet_step (first
      | (go_at_call 27; exact ext_call (refIsNode_is _ _ _ _ _ hn _ G1.out))
      | (go_at_call 32; exact ext_same (refIsPence_is _ _ _ G2.out))
      | (go_at_call 66; exact ext_call (refAsk_is _ _ ns _ hn _ (Nodes.lt EH.out.hN (extB_below _ _)) _ HE.out))))
    refine wpQuiet_nil ?_
    rintro _ ⟨x1, rfl⟩
    have hb1 := (EH.out.next (extB_below W0 x1)).hb
    go_wp2
    go_ret3
    exact ⟨rfl, hb1⟩
end Go.Proofs.Ytohoonbbjkefaaa
