import Derived.Test.YtohoonbbjkefaaaG6
namespace Go.Proofs.Ytohoonbbjkefaaa
open Go.RowKit

theorem check_is (A : Option Addr) (c : Nat) (ns : List Node) (hn : ns.length ≤ 1000) (w : World) (hN : Nodes w w.heap.size A ns) (e : Int) (he : ckE ns = e) : Calls Try.prog 46 #[.agg #[.slice A ns.length c]] w fun x w' => x = .returned (.int .i64 e) ∧ Below w.heap.size w w' := by
  rw [← he]; exact check_any A c ns hn w hN
set_option maxRecDepth 100000 in
set_option maxHeartbeats 8000000 in
theorem gets_law (A : Option Addr) (c : Nat) (ns : List Node) (hA : A = none → c = 0 ∧ ns = []) (hn : ns.length ≤ 9223372036854775807) (node p : Int) (w : World) (hN : Nodes w w.heap.size A ns) :
    Calls Try.prog 11 #[.agg #[.slice A ns.length c], .int .i64 node, .int .i64 p] w fun e w' => e = .returned (.bool true) ∧ Below w.heap.size w w' := by
  obtain ⟨W0, hW0⟩ : ∃ W0, w.alloc (.cells #[.slice A ns.length c] 24) = W0 := ⟨_, rfl⟩
  have E0 : Env w A c ns W0 := by rw [← hW0]; exact Env.new c hN
  have q0 := E0.bC.cell
  clear hN
  by_cases h40 : 40 < ns.length
  · have HF := Lib.hid (far_big A ns.length c W0 hn true (by simpa using h40))
    go_enter Try.func11, Try.ntmps11
    go_wp2_with (first
      | (go_at_call 16; go_must (refine HF.out.mono ?_; rintro e w1 ⟨rfl, hb1⟩; have E1 := E0.next hb1))
      | (go_at_call 17; go_must (refine (works_any w1).mono ?_; rintro e w2 ⟨rfl, hb2⟩; have E2 := E1.next hb2)))
    go_ret
    exact ⟨rfl, E2.hb⟩
  · have HF := Lib.hid (far_big A ns.length c W0 hn false (by simpa using h40))
    obtain ⟨L1, h1⟩ : ∃ L, getsL ns p = L := ⟨_, rfl⟩
    obtain ⟨L2, h2⟩ : ∃ L, keepsL ns p = L := ⟨_, rfl⟩
    obtain ⟨L3, h3⟩ : ∃ L, splitB ns node p = L := ⟨_, rfl⟩
    obtain ⟨K3, h4⟩ : ∃ K, splitK ns node p = K := ⟨_, rfl⟩
    obtain ⟨E1', h5⟩ : ∃ E, penceE ns p = E := ⟨_, rfl⟩
    obtain ⟨E2', h6⟩ : ∃ E, splitE ns node p = E := ⟨_, rfl⟩
    obtain ⟨CE, h7⟩ : ∃ E, ckE ns = E := ⟨_, rfl⟩
    have hn4 : ns.length ≤ 1000 := by omega
    have z1 : L1.length ≤ 1000 := by rw [← h1]; unfold getsL; split <;> simp [gotsS]; omega
    have z2 : L2.length ≤ 1000 := by rw [← h2]; unfold keepsL; split <;> simp [keptsS]; omega
    have z3 : L3.length ≤ 1000 := by
      rw [← h3]; unfold splitB; split
      · rw [splitL_len, kidL_len]
        have := List.length_filter_le (isKid ns node.toNat) (List.range ns.length)
        simp only [List.length_range] at this
        unfold kidsN
        omega
      · simp
    have H1 := Lib.hid h1
    have H2 := Lib.hid h2
    have H3 := Lib.hid h3
    have H4 := Lib.hid h4
    have H5 := Lib.hid h5
    have H6 := Lib.hid h6
    have H7 := Lib.hid h7
    have HA := Lib.hid hA
    clear h1 h2 h3 h4 h5 h6 h7 hA
    go_enter Try.func11, Try.ntmps11
    go_wp2_with (first
      | (go_at_call 16; go_must (refine HF.out.mono ?_; rintro e w1 ⟨rfl, hb1⟩; have E1 := E0.next hb1; have a1 := E1.bC.cell))
      | (go_at_call 18; go_must (refine (copy_is A c ns HA.out hn4 w1 E1.hN).mono ?_; rintro e w2 ⟨A', c', rfl, hA', hN', _, hb2⟩; have F2 : EnvF w A c ns w2.heap.size A' c' (w2.alloc (.cells #[.slice A' ns.length c'] 24)) := ⟨(E1.next hb2).alloc _, Boxed.new _ _ _, Nodes.alloc hN' _⟩)))
    have F2H := Lib.hid F2
    have r0 := extB_cell F2.b.cell
    have r1 := extB_cell F2.e.bC.cell
    refine wp_region_ext (by kernel_rfl) (by kernel_rfl) ?_
    repeat (go_big_quiet_step (first
      | (go_at_call 46; exact ext_call (check_is A' c' ns hn4 _ (Nodes.lt F2H.out.hN (extB_below _ _)) _ H7.out))
      | (go_at_call 47; exact ext_call (refCheck_is A c ns hn4 _ (Nodes.lt F2H.out.e.hN (extB_below _ _)) _ H7.out))))
    refine wpQuiet_nil ?_
    rintro _ ⟨x1, rfl⟩
    have F3 := F2H.out.next (extB_below _ x1)
    have a3 := F3.b.cell
    go_wp2_with (first
      | (go_at_call 48; go_must (refine (gets_all A' c' ns p hn4 _ F3.hN _ H1.out _ H5.out).mono ?_; rintro e w4 ⟨B1, d1, rfl, i1, hb4⟩; have F4 := F3.next hb4; have a4 := F4.e.bC.cell))
      | (go_at_call 49; go_must (refine (refGets_all A c ns p hn4 _ F4.e.hN _ H1.out _ H5.out).mono ?_; rintro e w5 ⟨B2, d2, rfl, i2, hb5⟩; have F5 := F4.next hb5; have a5 := F5.b.cell; have i1a := ilt i1 hb5))
      | (go_at_call 50; go_must (refine (keeps_all A' c' ns p hn4 _ F5.hN _ H2.out _ H5.out).mono ?_; rintro e w6 ⟨B3, d3, rfl, i3, hb6⟩; have F6 := F5.next hb6; have a6 := F6.e.bC.cell; have i1b := ilt i1a hb6; have i2b := ilt i2 hb6))
      | (go_at_call 51; go_must (refine (refKeeps_all A c ns p hn4 _ F6.e.hN _ H2.out _ H5.out).mono ?_; rintro e w7 ⟨B4, d4, rfl, i4, hb7⟩; have F7 := F6.next hb7; have a7 := F7.b.cell; have i1c := ilt i1b hb7; have i2c := ilt i2b hb7; have i3c := ilt i3 hb7))
      | (go_at_call 33; go_must (refine (split_all A' c' ns node p hn4 _ F7.hN _ H3.out _ H4.out _ H6.out).mono ?_; rintro e w8 ⟨B5, d5, rfl, i5, hb8⟩; have F8 := F7.next hb8; have a8 := F8.e.bC.cell; have i1d := ilt i1c hb8; have i2d := ilt i2c hb8; have i3d := ilt i3c hb8; have i4d := ilt i4 hb8))
      | (go_at_call 52; go_must (refine (refSplit_all A c ns node p hn4 _ F8.e.hN _ H3.out _ H4.out _ H6.out).mono ?_; rintro e w9 ⟨B6, d6, rfl, i6, hb9⟩; have F9 := F8.next hb9; have i1e := ilt i1d hb9; have i2e := ilt i2d hb9; have i3e := ilt i3d hb9; have i4e := ilt i4d hb9; have i5e := ilt i5 hb9))
      | (go_at_call 37; refine (sameInts_is _ _ _ _ L3 z3 _ i5g i6g).mono ?_; rintro e w12 ⟨rfl, hb12⟩; have F12 := F11.next hb12; have a12 := F12.b.cell; have a13 := F12.e.bC.cell)
      | (go_at_call 37; refine (sameInts_is _ _ _ _ L2 z2 _ i3f i4f).mono ?_; rintro e w11 ⟨rfl, hb11⟩; have F11 := F10.next hb11; have i5g := ilt i5f hb11; have i6g := ilt i6f hb11)
      | (go_at_call 37; go_must (refine (sameInts_is _ _ _ _ L1 z1 _ i1e i2e).mono ?_; rintro e w10 ⟨rfl, hb10⟩; have F10 := F9.next hb10; have i3f := ilt i3e hb10; have i4f := ilt i4e hb10; have i5f := ilt i5e hb10; have i6f := ilt i6 hb10))
      | (go_at_call 25; go_must (refine (same_is A' A c' c ns hn4 _ F12.hN F12.e.hN).mono ?_; rintro e w13 ⟨rfl, hb13⟩; have F13 := F12.next hb13))
      | (go_at_call 17; go_must (refine (works_any w13).mono ?_; rintro e w14 ⟨rfl, hb14⟩; have F14 := F13.next hb14)))
    go_ret
    exact ⟨rfl, F14.e.hb⟩
end Go.Proofs.Ytohoonbbjkefaaa
