import Derived.Test.YtohoonbbjkefaaaB8
namespace Go.Proofs.Ytohoonbbjkefaaa
open Go.RowKit

theorem setW_at {ns : List Node} {k i : Nat} {x : Int} {y : Node} (h : (setW ns k x)[i]? = some y) : ∃ z, ns[i]? = some z ∧ y.u = z.u ∧ y.f = z.f ∧ (y.w = z.w ∨ y.w = x) := by
  unfold setW at h
  rw [List.getElem?_set] at h
  split at h
  · rename_i e
    subst e
    by_cases hk : k < ns.length
    · rw [if_pos hk] at h; cases h; exact ⟨_, GoodC.at_ hk, rfl, rfl, .inr rfl⟩
    · rw [if_neg hk] at h; cases h
  · exact ⟨y, h, rfl, rfl, .inl rfl⟩
theorem setW_good {ns : List Node} (h : GoodC ns) (k : Nat) {x : Int} (hx : 0 ≤ x ∧ x ≤ 9) : GoodC (setW ns k x) := by
  refine ⟨by rw [setW_len]; exact h.l1, by rw [setW_len]; exact h.l8, fun i y hy hi => ?_, fun y hy => ?_, fun i y hy => ?_, fun i y hy => ?_⟩
  · obtain ⟨z, hz, e1, _⟩ := setW_at hy; rw [e1]; exact h.up i z hz hi
  · obtain ⟨z, hz, e1, _⟩ := setW_at hy; rw [e1]; exact h.top z hz
  · obtain ⟨z, hz, _, _, e⟩ := setW_at hy
    rcases e with e | e
    · rw [e]; exact h.ws i z hz
    · rw [e]; exact hx
  · obtain ⟨z, hz, _, e1, _⟩ := setW_at hy; rw [e1]; exact h.fs i z hz

/-- The weights below k that a node could have. -/
def wtsTo (ns : List Node) (n : Nat) (ps : List Node) : Nat → List Int
  | 0 => []
  | k + 1 => if ps.any (fun p => !agreesB (setW ns n k) p) then wtsTo ns n ps k else wtsTo ns n ps k ++ [(k : Int)]
theorem wtsTo_len (ns : List Node) (n : Nat) (ps : List Node) : ∀ k, (wtsTo ns n ps k).length ≤ k
  | 0 => Nat.le_refl _
  | k + 1 => by
    have := wtsTo_len ns n ps k
    unfold wtsTo
    split
    · omega
    · simp; omega
/-- The error of Weights; its list. -/
def wtsE (ns : List Node) (node : Int) (ps : List Node) : Int := askE ns (inR node 0 (ns.length - 1) && decide (0 < node)) ps
def wtsV (ns : List Node) (node : Int) (ps : List Node) : List Int := if wtsE ns node ps = 0 then wtsTo ns node.toNat ps 10 else []
def wtsR (ns : List Node) (node : Int) (ps : List Node) : Int := if wtsE ns node ps = 0 then (if (wtsTo ns node.toNat ps 10).length = 0 then 3 else 0) else wtsE ns node ps

theorem contains_is (gf pb c : Nat) (A : Option Addr) (l : List Node) (hl : l.length ≤ 1000) (p : Node → Bool) (w : World) (hP : Nodes w w.heap.size A l) (eg : ∀ args w, (callFunc gf args).run Try.prog w = .ok (.enter gf args) w)
    (hf : ∀ (x : Node) (W : World), x ∈ l → Below w.heap.size w W → Calls Try.prog gf #[.agg #[.int .i64 x.u, .int .i64 x.w, .int .i64 x.f], .pointer (some ⟨pb, 0, none⟩)] W fun e w' => e = .returned (.bool (p x)) ∧ Below W.heap.size W w') (b : Bool) (hb : l.any p = b) :
    Calls Try.prog 78 #[.slice A l.length c, .func (.func gf) #[] #[.pointer (some ⟨pb, 0, none⟩)]] w fun e w' => e = .returned (.bool b) ∧ Below w.heap.size w w' := by
  rw [← hb]; exact containsPay_any gf pb c A l hl p w hP eg hf
theorem intOf_lit (k : Int) : intOf (.int .i64 k) = k := rfl
theorem wts_again (A2 : Option Addr) (c2 : Nat) (ns ps : List Node) (n k : Nat) (hg : GoodC ns) (_hn : n < ns.length) (hp : ps.length ≤ 1000) (hps : ps.all (payOK ns.length) = true) (hk : k ≤ 9) (w2 : World) (g cap : Nat) (hN2 : Nodes w2 w2.heap.size (some ⟨g, 0, none⟩) (setW ns n k)) (hP2 : Nodes w2 w2.heap.size A2 ps) (bb : Bool) (hbb : ps.any (fun p => !agreesB (setW ns n k) p) = bb) :
    Calls Try.prog 78 #[.slice A2 ps.length c2, .func (.func 79) #[] #[.pointer (some ⟨w2.heap.size, 0, none⟩)]] (w2.alloc (.cells #[.slice (some ⟨g, 0, none⟩) ns.length cap] 80)) fun e w' => e = .returned (.bool bb) ∧ Below w2.heap.size w2 w' := by
  have hgs := setW_good hg n (x := k) (by omega)
  have b3 := Boxed.new w2 80 (.slice (some ⟨g, 0, none⟩) ns.length cap)
  refine (contains_is 79 w2.heap.size c2 A2 ps hp (fun p => !agreesB (setW ns n k) p) _ (Nodes.alloc hP2 _) (enters_of Try.func79 (by kernel_rfl) rfl) (fun x W hx hW => ?_) bb hbb).mono ?_
  · have := weights1_any w2.heap.size (some ⟨g, 0, none⟩) cap (setW ns n k) x hgs (by rw [setW_len]; exact List.all_eq_true.1 hps x hx) W (Nodes.lt (Nodes.alloc hN2 _) hW) (by rw [setW_len]; exact boxed_ext hW b3)
    exact this
  · rintro e w' ⟨he, hb⟩
    exact ⟨he, ((Below.refl _ w2).alloc (Nat.le_refl _) _).trans (hb.mono (by simp))⟩

set_option maxRecDepth 100000 in
set_option maxHeartbeats 4000000 in
theorem weights_ok (A A2 : Option Addr) (c c2 : Nat) (ns ps : List Node) (node : Int) (hn : ns.length ≤ 1000) (hp : ps.length ≤ 1000) (w : World) (hN : Nodes w w.heap.size A ns) (hP : Nodes w w.heap.size A2 ps) :
    Calls Try.prog 41 #[.agg #[.slice A ns.length c], .int .i64 node, .slice A2 ps.length c2] w fun e w' => ∃ Ao co, e = .returned (.tuple #[.slice Ao (wtsV ns node ps).length co, .int .i64 (wtsR ns node ps)]) ∧ IntsAt w' w'.heap.size Ao (wtsV ns node ps) ∧ Below w.heap.size w w' := by
  obtain ⟨W0, hW0⟩ : ∃ W0, w.alloc (.cells #[.slice A ns.length c] 24) = W0 := ⟨_, rfl⟩
  have b1 : Boxed W0 w.heap.size 24 (.slice A ns.length c) := by rw [← hW0]; exact Boxed.new _ _ _
  have hB0 : Below w.heap.size w W0 := by rw [← hW0]; exact (Below.refl _ w).alloc (Nat.le_refl _) _
  have hN0 : Nodes W0 W0.heap.size A ns := Nodes.lt hN hB0
  have hP0 : Nodes W0 W0.heap.size A2 ps := Nodes.lt hP hB0
  have l1 := extB_cell b1.cell
  cases g1 : inR node 0 (ns.length - 1) <;> cases g2 : decide (0 < node)
  all_goals
    have G1 := Lib.hid g1
    have G2 := Lib.hid g2
    have gg := g2
    first | rw [decide_eq_true_iff] at gg | rw [decide_eq_false_iff_not] at gg
    obtain ⟨ee, hee⟩ : ∃ ee, wtsE ns node ps = ee := ⟨_, rfl⟩
    have hef := hee
    rw [wtsE, g1, g2] at hee
    simp only [Bool.and_true, Bool.and_false] at hee
    rcases err_cases ee with rfl | ⟨hne, hneb⟩
    · obtain ⟨z1, z2, z3, z4⟩ := askE_zero hee
      have HE := Lib.hid hee
      have HEF := Lib.hid hef
      clear hef g1 g2 hee
      first
        | (exfalso; revert z2; decide)
        | (have hg := good_of z1
           obtain ⟨m, rfl⟩ : ∃ m : Nat, node = m := ⟨node.toNat, by have := (inR_true.1 G1.out).1; omega⟩
           have hm : m < ns.length := by have := (inR_true.1 G1.out).2; omega
           obtain ⟨b, off, hA, _⟩ := hN0.at_ (GoodC.at_ hm)
           subst hA
           have Z4 := Lib.hid z4
           have gm : 0 < m := by omega
           clear gg
           clear z1 z2 z4
           go_enter Try.func41, Try.ntmps41
           go_wp2
           clear hW0
           refine wp_region_ext (by kernel_rfl) (by kernel_rfl) ?_
           repeat (go_big_quiet_step (first
             | (go_at_call 61; exact ext_call (isNode_is _ _ _ _ _ hn _ G1.out))
             | (go_at_call 60; exact ext_call (ask_is _ A2 _ c2 ns ps _ hn hp _ (Nodes.lt hN0 (extB_below _ _)) (Nodes.lt hP0 (extB_below _ _)) _ HE.out))))
           refine wpQuiet_nil ?_
           rintro _ ⟨x1, rfl⟩
           obtain ⟨W1, hW1⟩ : ∃ W1, extB W0 x1 = W1 := ⟨_, rfl⟩
           have hb1 := extB_below W0 x1
           have m1 := l1 x1
           rw [hW1] at hb1 m1 ⊢
           clear hW1 l1
           have hb2 := hb0to hB0 hb1
           have Hb1 := boxed_ext hb1 b1
           have hN1 := Nodes.lt hN0 hb1
           have hP1 := Nodes.lt hP0 hb1
           go_wp2
           go_loopw [9, 10, 11, 25] (fun v _ _ i wr => ∃ k : Nat, k ≤ 10 ∧ i = .int .i64 k ∧ Hid (Ints wr W1.heap.size v (wtsTo ns m ps k)) ∧ Below W1.heap.size W1 wr)
             (fun _ _ _ i _ => 10 - (intOf i).toNat)
           case atStart => exact ⟨0, by omega, rfl, Lib.hid (ints_nil _ _), Below.refl _ _⟩
           case round =>
             obtain ⟨k, hk, rfl, HV, hb3⟩ := hrel
             by_cases hlt : k < 10
             · have n1 := (boxed_ext hb3 Hb1).cell
               have hN3 := Nodes.lt hN1 hb3
               have hP3 := Nodes.lt hP1 hb3
               have HW := Lib.hid (with_any b off c ns m k hm hn wr hN3)
               cases hbb : ps.any (fun p => !agreesB (setW ns m k) p)
               all_goals
                 have HBB := Lib.hid hbb
                 clear hbb
                 go_wp2_with (first
                   | (go_at_call 77; refine HW.out.mono ?_; rintro e w2 ⟨g, cap, rfl, hN4, hb4⟩; have hP4 := Nodes.lt hP3 hb4)
                   | (go_at_call 78; refine (wts_again A2 c2 ns ps m k hg hm hp Z4.out (by omega) w2 g cap hN4 hP4 _ HBB.out).mono ?_; rintro e w3 ⟨rfl, hb5⟩; have hb6 := hb4.trans (hb5.mono hb4.size))
                   | (at_builtin; go_must (refine wpl_app rfl (.tmp 37) (.tmp 39) rfl W1.heap.size W1.heap.size _ (wtsTo ns m ps k) k rfl (Ints.below_ HV.out (hb6.alloc hb6.size _) (Nat.le_refl _)) ⟨w3.heap.size, 0, none⟩ 1 rfl (Boxed.cell (Boxed.new w3 3 (.int .i64 k))) (by have := wtsTo_len ns m ps k; omega) (by have := hb6.size; have := hb3.size; simp; omega) (Nat.le_refl _) ?_; intro v' w4 hown4 hb7)))
                 · first
                     | (go_roundw
                        case rel => exact ⟨k + 1, by omega, by go_num, Lib.hid (by
                          have e : wtsTo ns m ps (k + 1) = wtsTo ns m ps k ++ [(k : Int)] := by rw [wtsTo, HBB.out]; rfl
                          rw [e]; exact hown4), (hb3.trans (hb6.mono hb3.size)).trans (((Below.refl _ w3).alloc (by have := hb6.size; have := hb3.size; omega) _).trans hb7)⟩
                        case measure => simp [intOf]; omega)
                     | (go_roundw
                        case rel => exact ⟨k + 1, by omega, by go_num, Lib.hid (by
                          have e : wtsTo ns m ps (k + 1) = wtsTo ns m ps k := by rw [wtsTo, HBB.out]; rfl
                          rw [e]; exact Ints.below_ HV.out hb6 (Nat.le_refl _)), hb3.trans (hb6.mono hb3.size)⟩
                        case measure => simp [intOf]; omega)
             · obtain rfl : k = 10 := by omega
               obtain ⟨A3, c3, rfl, hA3, hI3⟩ := Ints.lay HV.out
               have hll := wtsTo_len ns m ps 10
               by_cases hl : (wtsTo ns m ps 10).length = 0
               · have hlb : (((wtsTo ns m ps 10).length : Int) == 0) = true := by simp only [beq_iff_eq]; omega
                 have H1 := Lib.hid (show wtsR ns m ps = 3 from by rw [wtsR, if_pos HEF.out]; exact if_pos hl)
                 have H2 := Lib.hid (show wtsV ns m ps = [] from by rw [wtsV, if_pos HEF.out]; exact List.length_eq_zero_iff.1 hl)
                 clear hl hA3
                 go_wp2
                 go_ret2
                 exact ⟨none, 0, by rw [H1.out, H2.out]; rfl, by rw [H2.out]; exact intsAt_nil, hb2.trans (hb3.mono hb2.size)⟩
               · have hlb : (((wtsTo ns m ps 10).length : Int) == 0) = false := by rw [beq_eq_false_iff_ne]; omega
                 have H1 := Lib.hid (show wtsR ns m ps = 0 from by rw [wtsR, if_pos HEF.out]; exact if_neg hl)
                 have H2 := Lib.hid (show wtsV ns m ps = wtsTo ns m ps 10 from by rw [wtsV, if_pos HEF.out]; rfl)
                 have HI3 := Lib.hid hI3
                 clear hl hA3 hI3
                 go_wp2
                 go_ret2
                 exact ⟨A3, c3, by rw [H1.out, H2.out]; rfl, by rw [H2.out]; exact HI3.out, hb2.trans (hb3.mono hb2.size)⟩)
    · have H1 := Lib.hid (show wtsR ns node ps = ee from by unfold wtsR; rw [hef]; exact if_neg hne)
      have H2 := Lib.hid (show wtsV ns node ps = [] from by unfold wtsV; rw [hef]; exact if_neg hne)
      have HE := Lib.hid hee
      clear hef g1 g2 hee gg
      have gq := G2.out
      go_enter Try.func41, Try.ntmps41
      go_wp2
      clear hW0
      refine wp_region_ext (by kernel_rfl) (by kernel_rfl) ?_
      repeat (go_big_quiet_step (first
        | (go_at_call 61; exact ext_call (isNode_is _ _ _ _ _ hn _ G1.out))
        | (go_at_call 60; exact ext_call (ask_is _ A2 _ c2 ns ps _ hn hp _ (Nodes.lt hN0 (extB_below _ _)) (Nodes.lt hP0 (extB_below _ _)) _ HE.out))))
      refine wpQuiet_nil ?_
      rintro _ ⟨x1, rfl⟩
      have hb1 := hb0to hB0 (extB_below W0 x1)
      go_wp2
      go_ret2
      exact ⟨none, 0, by rw [H1.out, H2.out]; rfl, by rw [H2.out]; exact intsAt_nil, hb1⟩
end Go.Proofs.Ytohoonbbjkefaaa
