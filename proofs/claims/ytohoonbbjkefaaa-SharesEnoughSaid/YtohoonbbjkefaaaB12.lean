import Derived.Test.YtohoonbbjkefaaaB11
namespace Go.Proofs.Ytohoonbbjkefaaa
open Go.RowKit

theorem wtsTo_bd (ns : List Node) (n : Nat) (ps : List Node) : ∀ k, ∀ x ∈ wtsTo ns n ps k, 0 ≤ x ∧ x < k
  | 0, x, hx => by simp [wtsTo] at hx
  | k + 1, x, hx => by
    have ih := wtsTo_bd ns n ps k
    unfold wtsTo at hx
    split at hx
    · have := ih x hx; omega
    · rw [List.mem_append, List.mem_singleton] at hx
      rcases hx with hx | hx
      · have := ih x hx; omega
      · omega
/-- Ask's answer. -/
def askS (ns : List Node) (node : Int) (ps : List Node) : Int × Int :=
  if wtsR ns node ps ≠ 0 then (0, wtsR ns node ps) else if (wtsV ns node ps).length = 1 then (0, 0) else firstE (fun n => decide (askKeys ns node.toNat (wtsV ns node ps) n).Nodup) 401
theorem wtsR_zero {ns : List Node} {node : Int} {ps : List Node} (h : wtsR ns node ps = 0) : wtsE ns node ps = 0 ∧ wtsV ns node ps = wtsTo ns node.toNat ps 10 := by
  unfold wtsR at h
  split at h
  · rename_i h0
    exact ⟨h0, by rw [wtsV, if_pos h0]⟩
  · exact absurd h (by assumption)
theorem wtsE_zero {ns : List Node} {node : Int} {ps : List Node} (h : wtsE ns node ps = 0) : GoodC ns ∧ 0 < node ∧ node < ns.length ∧ ps.length ≤ 6 ∧ ps.all (payOK ns.length) = true := by
  obtain ⟨z1, z2, z3, z4⟩ := askE_zero h
  rw [Bool.and_eq_true, inR_true, decide_eq_true_eq] at z2
  exact ⟨good_of z1, z2.2, by omega, z3, z4⟩

theorem ask_again (b off c : Nat) (ns : List Node) (l : List Int) (m : Nat) (hg : GoodC ns) (hm : m < ns.length) (hl : l.length ≤ 10) (hl9 : ∀ x ∈ l, 0 ≤ x ∧ x ≤ 9) (w1 : World) (Ao : Option Addr) (co bc bn : Nat) (hN : Nodes w1 w1.heap.size (some ⟨b, off, none⟩) ns) (hI : IntsAt w1 w1.heap.size Ao l)
    (b1 : Boxed w1 bc 24 (.slice (some ⟨b, off, none⟩) ns.length c)) (b2 : Boxed w1 bn 3 (.int .i64 m)) :
    Calls Try.prog 63 #[.int .i64 401, .func (.func 81) #[] #[.pointer (some ⟨w1.heap.size, 0, none⟩), .pointer (some ⟨bc, 0, none⟩), .pointer (some ⟨bn, 0, none⟩)]] (w1.alloc (.cells #[.slice Ao l.length co] 40)) fun e w' =>
      e = .returned (.tuple #[.int .i64 (firstE (fun n => decide (askKeys ns m l n).Nodup) 401).1, .int .i64 (firstE (fun n => decide (askKeys ns m l n).Nodup) 401).2]) ∧ Below w1.heap.size w1 w' := by
  have b3 := Boxed.new w1 40 (.slice Ao l.length co)
  have d1 := b1.alloc (.cells #[.slice Ao l.length co] 40)
  have d2 := b2.alloc (.cells #[.slice Ao l.length co] 40)
  have hI2 := ilt hI ((Below.refl _ w1).alloc (Nat.le_refl _) (.cells #[.slice Ao l.length co] 40))
  refine (first3_any 81 w1.heap.size bc bn 401 (by omega) (fun n => decide (askKeys ns m l n).Nodup) (w1.alloc (.cells #[.slice Ao l.length co] 40)) (enters_of Try.func81 (by kernel_rfl) rfl) (fun k W hk hW => ?_)).mono ?_
  · exact ask1S_any w1.heap.size bc bn b off c co k Ao ns l m hg hm (by omega) hl hl9 W (Nodes.lt (Nodes.alloc hN _) hW) (ilt hI2 hW) (boxed_ext hW b3) (boxed_ext hW d1) (boxed_ext hW d2)
  · rintro e w' ⟨he, hb⟩
    exact ⟨he, ((Below.refl _ w1).alloc (Nat.le_refl _) _).trans (hb.mono (by simp))⟩

set_option maxRecDepth 100000 in
set_option maxHeartbeats 4000000 in
theorem ask_ok (A A2 : Option Addr) (c c2 : Nat) (ns ps : List Node) (node : Int) (hn : ns.length ≤ 1000) (hp : ps.length ≤ 1000) (w : World) (hN : Nodes w w.heap.size A ns) (hP : Nodes w w.heap.size A2 ps) :
    Calls Try.prog 43 #[.agg #[.slice A ns.length c], .int .i64 node, .slice A2 ps.length c2] w fun e w' => e = .returned (.tuple #[.int .i64 (askS ns node ps).1, .int .i64 (askS ns node ps).2]) ∧ Below w.heap.size w w' := by
  obtain ⟨W0, hW0⟩ : ∃ W0, (w.alloc (.cells #[.slice A ns.length c] 24)).alloc (.cells #[.int .i64 node] 3) = W0 := ⟨_, rfl⟩
  have b1 : Boxed W0 w.heap.size 24 (.slice A ns.length c) := by rw [← hW0]; exact (Boxed.new _ _ _).alloc _
  have b2 : Boxed W0 (w.heap.size + 1) 3 (.int .i64 node) := by
    have := Boxed.new (w.alloc (.cells #[.slice A ns.length c] 24)) 3 (.int .i64 node)
    rw [← hW0]; simpa only [World.size_alloc] using this
  have hB0 : Below w.heap.size w W0 := by rw [← hW0]; exact ((Below.refl _ w).alloc (Nat.le_refl _) _).alloc (by simp) _
  have hN0 : Nodes W0 W0.heap.size A ns := Nodes.lt hN hB0
  have hP0 : Nodes W0 W0.heap.size A2 ps := Nodes.lt hP hB0
  have l1 := b1.cell
  have l2 := b2.cell
  have HWt := Lib.hid (weights_ok A A2 c c2 ns ps node hn hp W0 hN0 hP0)
  clear hP0 hP hN
  rcases err_cases (wtsR ns node ps) with hz | ⟨hne, hneb⟩
  · obtain ⟨h1, h2⟩ := wtsR_zero hz
    obtain ⟨hg, hm0, hm, _, _⟩ := wtsE_zero h1
    obtain ⟨m, rfl⟩ : ∃ m : Nat, node = m := ⟨node.toNat, by omega⟩
    have hm' : m < ns.length := by omega
    obtain ⟨b, off, hA, _⟩ := hN0.at_ (GoodC.at_ hm')
    subst hA
    have hzb : (wtsR ns m ps != 0) = false := by rw [hz]; rfl
    have hlen : (wtsV ns m ps).length ≤ 10 := by rw [h2]; exact wtsTo_len _ _ _ 10
    have hl9 : ∀ x ∈ wtsV ns m ps, 0 ≤ x ∧ x ≤ 9 := fun x hx => by
      rw [h2] at hx
      have := wtsTo_bd _ _ _ 10 x hx
      omega
    by_cases hl1 : (wtsV ns m ps).length = 1
    · have HS := Lib.hid (show askS ns m ps = (0, 0) from by unfold askS; rw [if_neg (by rw [hz]; simp), if_pos hl1])
      have hlb : (((wtsV ns m ps).length : Int) == 1) = true := by simp only [beq_iff_eq]; omega
      have HZ := Lib.hid hz
      clear hz h1 h2 hl1
      go_enter Try.func43, Try.ntmps43
      go_wp2_with (go_at_call 41; go_must (refine HWt.out.mono ?_; rintro e w1 ⟨Ao, co, rfl, hI, hb1⟩))
      clear hW0
      go_ret2
      exact ⟨by rw [HS.out, HZ.out]; rfl, hb0to hB0 (hb1.trans ((Below.refl _ w1).alloc hb1.size _))⟩
    · have HS := Lib.hid (show askS ns m ps = firstE (fun n => decide (askKeys ns m (wtsV ns m ps) n).Nodup) 401 from by unfold askS; rw [if_neg (by rw [hz]; simp), if_neg hl1]; rfl)
      have hlb : (((wtsV ns m ps).length : Int) == 1) = false := by rw [beq_eq_false_iff_ne]; omega
      have HZ := Lib.hid hz
      clear hz h1 h2 hl1
      go_enter Try.func43, Try.ntmps43
      go_wp2_with (first
        | (go_at_call 41; go_must (refine HWt.out.mono ?_; rintro e w1 ⟨Ao, co, rfl, hI, hb1⟩))
        | (go_at_call 63; go_must (refine (ask_again b off c ns (wtsV ns m ps) m hg hm' hlen hl9 w1 Ao co w.heap.size (w.heap.size + 1) (Nodes.lt hN0 hb1) hI (boxed_ext hb1 b1) (boxed_ext hb1 b2)).mono ?_; rintro e w2 ⟨rfl, hb2⟩)))
      clear hW0
      go_ret2
      exact ⟨by rw [HS.out]; rfl, hb0to hB0 (hb1.trans (hb2.mono hb1.size))⟩
  · have HS := Lib.hid (show askS ns node ps = (0, wtsR ns node ps) from if_pos hne)
    go_enter Try.func43, Try.ntmps43
    go_wp2_with (go_at_call 41; go_must (refine HWt.out.mono ?_; rintro e w1 ⟨Ao, co, rfl, hI, hb1⟩))
    clear hW0
    go_ret2
    exact ⟨by rw [HS.out]; rfl, hb0to hB0 (hb1.trans ((Below.refl _ w1).alloc hb1.size _))⟩
end Go.Proofs.Ytohoonbbjkefaaa
