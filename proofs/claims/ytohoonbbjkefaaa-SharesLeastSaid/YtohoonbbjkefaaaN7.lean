import Derived.Test.YtohoonbbjkefaaaN4
import Derived.Test.YtohoonbbjkefaaaG6
namespace Go.Proofs.Ytohoonbbjkefaaa
open Go.RowKit

/-- The law's memory: the custom, numbers. -/
structure EnvI (w : World) (A : Option Addr) (c : Nat) (ns : List Node) (B : Option Addr) (l : List Int) (W : World) : Prop where
  e : Env w A c ns W
  i : IntsAt W W.heap.size B l
theorem EnvI.next {w : World} {A : Option Addr} {c : Nat} {ns : List Node} {B : Option Addr} {l : List Int} {W W' : World} (h : EnvI w A c ns B l W) (hb : Below W.heap.size W W') : EnvI w A c ns B l W' :=
  ⟨h.e.next hb, ilt h.i hb⟩
/-- With other numbers, too. -/
structure EnvJ (w : World) (A : Option Addr) (c : Nat) (ns : List Node) (B : Option Addr) (l : List Int) (C : Option Addr) (k : List Int) (W : World) : Prop where
  e : EnvI w A c ns B l W
  j : IntsAt W W.heap.size C k
theorem EnvJ.next {w : World} {A : Option Addr} {c : Nat} {ns : List Node} {B : Option Addr} {l : List Int} {C : Option Addr} {k : List Int} {W W' : World} (h : EnvJ w A c ns B l C k W) (hb : Below W.heap.size W W') : EnvJ w A c ns B l C k W' :=
  ⟨h.e.next hb, ilt h.j hb⟩
def freeTo (l : List Node) (k : Nat) : Prop := ∀ j, j < k → (nodeAt l j).f = 0
theorem freeTo_zero (l : List Node) : freeTo l 0 := fun j hj => by omega
theorem freeTo_succ {l : List Node} {k : Nat} (h : freeTo l k) (h0 : (nodeAt l k).f = 0) : freeTo l (k + 1) := fun j hj => by
  by_cases e : j = k
  · rw [e]; exact h0
  · exact h j (by omega)
theorem freeTo_all {l : List Node} (h : freeTo l l.length) : ∀ x ∈ l, x.f = 0 := fun x hx => by
  obtain ⟨i, hi, rfl⟩ := List.getElem_of_mem hx
  have := h i hi
  have e : l[i]? = some (nodeAt l i) := GoodC.at_ hi
  rw [List.getElem?_eq_getElem hi] at e
  rw [Option.some.inj e]
  exact this
theorem splitE_good {ns : List Node} (hv : validB ns = true) {m : Nat} (hm : m < ns.length) {P : Int} (hP : inR P 0 400 = true) : splitE ns m P = 0 := by
  have hi : inR (m : Int) 0 (ns.length - 1) = true := inR_true.2 (by omega)
  unfold splitE
  rw [hi, hP]
  rw [askE, hv]
  simp
theorem at0_of {l : List Int} {k : Nat} (hk : k < l.length) : l[k]? = some (at0 l k) := by
  unfold at0
  rw [List.getElem?_eq_getElem hk]
  rfl

set_option maxRecDepth 100000 in
set_option maxHeartbeats 4000000 in
theorem near_law (A : Option Addr) (c : Nat) (ns : List Node) (hn : ns.length ≤ 9223372036854775807) (node P : Int) (w : World) (hN : Nodes w w.heap.size A ns) :
    Calls Try.prog 5 #[.agg #[.slice A ns.length c], .int .i64 node, .int .i64 P] w fun e w' => e = .returned (.bool true) ∧ Below w.heap.size w w' := by
  obtain ⟨W0, hW0⟩ : ∃ W0, w.alloc (.cells #[.slice A ns.length c] 24) = W0 := ⟨_, rfl⟩
  have E0 : Env w A c ns W0 := by rw [← hW0]; exact Env.new c hN
  have q0 := E0.bC.cell
  clear hN
  cases hv : validB ns
  · have HR := Lib.hid (ready_is A c ns hn W0 E0.hN false hv)
    clear hv
    go_enter Try.func5, Try.ntmps5
    go_wp2_with (first
      | (go_at_call 26; go_must (refine HR.out.mono ?_; rintro e w1 ⟨rfl, hb1⟩; have E1 := E0.next hb1))
      | (go_at_call 17; go_must (refine (works_any w1).mono ?_; rintro e w2 ⟨rfl, hb2⟩; have E2 := E1.next hb2)))
    go_ret
    exact ⟨rfl, E2.hb⟩
  · have HR := Lib.hid (ready_is A c ns hn W0 E0.hN true hv)
    have hn8 := validB_len hv
    cases hi : inR node 0 (ns.length - 1)
    · have HI := Lib.hid hi
      clear hv hi
      go_enter Try.func5, Try.ntmps5
      go_wp2_with (first
        | (go_at_call 26; go_must (refine HR.out.mono ?_; rintro e w1 ⟨rfl, hb1⟩; have E1 := E0.next hb1; have m0 := E1.bC.cell))
        | (go_at_call 27; go_must (refine (refIsNode_is A _ c _ w1 (by omega) _ HI.out).mono ?_; rintro e w2 ⟨rfl, hb2⟩; have E2 := E1.next hb2))
        | (go_at_call 17; go_must (refine (works_any w2).mono ?_; rintro e w3 ⟨rfl, hb3⟩; have E3 := E2.next hb3)))
      go_ret
      exact ⟨rfl, E3.hb⟩
    · have HI := Lib.hid hi
      cases hp : inR P 0 400
      · have HP := Lib.hid hp
        clear hv hi hp
        go_enter Try.func5, Try.ntmps5
        go_wp2_with (first
          | (go_at_call 26; go_must (refine HR.out.mono ?_; rintro e w1 ⟨rfl, hb1⟩; have E1 := E0.next hb1; have m0 := E1.bC.cell))
          | (go_at_call 27; go_must (refine (refIsNode_is A _ c _ w1 (by omega) _ HI.out).mono ?_; rintro e w2 ⟨rfl, hb2⟩; have E2 := E1.next hb2))
          | (go_at_call 32; go_must (refine (refIsPence_is _ _ _ HP.out).mono ?_; rintro e w' ⟨rfl, rfl⟩))
          | (go_at_call 17; go_must (refine (works_any w2).mono ?_; rintro e w3 ⟨rfl, hb3⟩; have E3 := E2.next hb3)))
        go_ret
        exact ⟨rfl, E3.hb⟩
      · have hg := good_of hv
        have hic := inR_true.1 hi
        have hpc := inR_true.1 hp
        obtain ⟨m, rfl⟩ : ∃ m : Nat, node = m := ⟨node.toNat, by omega⟩
        have hm : m < ns.length := by omega
        have h1 : 1 ≤ ns.length := by omega
        have HP := Lib.hid hp
        have HZ := Lib.hid (splitE_good hv hm hp)
        have hkl := kidsN_len hg m
        clear hv hi hp
        go_enter Try.func5, Try.ntmps5
        go_wp2_with (first
          | (go_at_call 26; go_must (refine HR.out.mono ?_; rintro e w1 ⟨rfl, hb1⟩; have E1 := E0.next hb1; have m0 := E1.bC.cell))
          | (go_at_call 27; go_must (refine (refIsNode_is A _ c _ w1 (by omega) _ HI.out).mono ?_; rintro e w2 ⟨rfl, hb2⟩; have E2 := E1.next hb2; have m2 := E2.bC.cell))
          | (go_at_call 32; go_must (refine (refIsPence_is _ _ _ HP.out).mono ?_; rintro e w' ⟨rfl, rfl⟩))
          | (go_at_call 29; go_must (refine (below_any A c ns m (by omega) h1 w2 E2.hN).mono ?_; rintro e w3 ⟨B, d, rfl, hI, hb3⟩; have P3 : EnvI w A c ns B ((kidsN ns m).map (fun i : Nat => (i : Int))) w3 := ⟨E2.next hb3, hI⟩)))
        have P3H := Lib.hid P3
        clear q0 m0 m2 hI P3 hb1 hb2 hb3 E1 E2
        go_loopw [8] (fun i wr => ∃ k : Nat, k ≤ (kidsN ns m).length ∧ i = .int .i64 k ∧ Below w3.heap.size w3 wr ∧ freeTo (kidL ns m) k) (fun i _ => (kidsN ns m).length - (intOf i).toNat)
        case atStart => exact ⟨0, Nat.zero_le _, rfl, Below.refl _ _, freeTo_zero _⟩
        case round =>
          obtain ⟨k, hk, rfl, hb, hF⟩ := hrel
          have Pr := P3H.out.next hb
          have HF := Lib.hid hF
          clear hF
          by_cases hlt : k < (kidsN ns m).length
          · obtain ⟨x, hx, hxl, _, hxk, hxi⟩ := kid_at hlt
            obtain ⟨b, off, rfl, _, hcx⟩ := IntsAt.at_ Pr.i hxi
            obtain ⟨b2, off2, rfl, _, c1, c2, c3⟩ := Pr.e.hN.at_ (GoodC.at_ (ns := ns) hxl)
            have hf := hg.fs x _ (GoodC.at_ hxl)
            obtain ⟨f, hff⟩ : ∃ f, (nodeAt ns x).f = f := ⟨_, rfl⟩
            rw [hff] at c3 hf
            have mc := extB_cell Pr.e.bC.cell
            have mx := extB_cell hcx
            have m3 := extB_cell c3
            have HXK := Lib.hid hxk
            have HFF := Lib.hid hff
            clear hcx c1 c2 c3 hx hxi hxk hff
            by_cases h0 : 0 < f
            · have g1 : decide (0 < f) = true := decide_eq_true h0
              go_wp2
              refine wp_region_ext (by kernel_rfl) (by kernel_rfl) ?_
              repeat (go_big_quiet_step (fail))
              refine wpQuiet_nil ?_
              rintro _ ⟨x1, rfl⟩
              have P5 := Pr.next (extB_below wr x1)
              go_wp2_with (go_at_call 17; go_must (refine (works_any _).mono ?_; rintro e w6 ⟨rfl, hb6⟩; have P6 := P5.next hb6))
              go_ret
              exact ⟨rfl, P6.e.hb⟩
            · have g1 : decide (0 < f) = false := decide_eq_false h0
              have hf0 : freeTo (kidL ns m) (k + 1) := freeTo_succ HF.out (by rw [HXK.out, HFF.out]; omega)
              have HF0 := Lib.hid hf0
              clear hf0
              go_wp2
              refine wp_region_ext (by kernel_rfl) (by kernel_rfl) ?_
              repeat (go_big_quiet_step (fail))
              refine wpQuiet_nil ?_
              rintro _ ⟨x1, rfl⟩
              have hb5 := hb0to hb (extB_below wr x1)
              go_wp2
              go_roundw
              case rel => exact ⟨k + 1, by omega, by go_num, hb5, HF0.out⟩
              case measure => simp [intOf]; omega
          · obtain rfl : k = (kidsN ns m).length := by omega
            have hfree : ∀ x ∈ kidL ns m, x.f = 0 := freeTo_all (by rw [kidL_len]; exact HF.out)
            have HFR := Lib.hid hfree
            have mc := Pr.e.bC.cell
            have hwk : ∀ x ∈ kidL ns m, 0 ≤ x.w := kidW hg m
            have HWK := Lib.hid hwk
            obtain ⟨s, hss⟩ : ∃ s, wsum ns m = s := ⟨_, rfl⟩
            obtain ⟨kv, hkv⟩ : ∃ kv, (splitL P (kidL ns m)).2 = kv := ⟨_, rfl⟩
            have hsb := wsum_bd hg m
            rw [hss] at hsb
            have HS := Lib.hid hss
            have HKV := Lib.hid hkv
            have hsp := split_ok A c ns m P (by omega) wr Pr.e.hN HZ.out
            rw [hkv] at hsp
            have HSP := Lib.hid hsp
            clear hfree hwk hss hkv HF hsp
            by_cases hs0 : s = 0
            · subst hs0
              obtain ⟨z1, z2⟩ := near_zero HFR.out hpc.1 (show lSum (kidL ns m) = 0 from HS.out)
              obtain rfl : P = kv := by rw [← HKV.out]; exact z1.symm
              have Z2 := Lib.hid z2
              clear z1 z2
              go_wp2_with (first
                | (go_at_call 33; go_must (refine HSP.out.mono ?_; rintro e w4 ⟨B4, d4, rfl, hI4, hb4⟩; have J4 : EnvJ w A c ns B ((kidsN ns m).map (fun i : Nat => (i : Int))) B4 (splitL P (kidL ns m)).1 w4 := ⟨Pr.next hb4, hI4⟩; have mc4 := J4.e.e.bC.cell))
                | (go_at_call 31; go_must (refine (refSum_is A c ns m hg w4 J4.e.e.hN 0 HS.out).mono ?_; rintro e w5 ⟨rfl, hb5⟩; have J5 := J4.next hb5)))
              have JH := Lib.hid J5
              clear J4 J5 mc mc4 hI4
              go_loopw [13] (fun i wq => ∃ k : Nat, k ≤ (kidsN ns m).length ∧ i = .int .i64 k ∧ w5 = wq) (fun i _ => (kidsN ns m).length - (intOf i).toNat)
              case atStart => exact ⟨0, Nat.zero_le _, rfl, rfl⟩
              case round =>
                obtain ⟨k, hk, rfl, rfl⟩ := hrel
                by_cases hlt : k < (kidsN ns m).length
                · obtain ⟨b4, o4, rfl, _, c4⟩ := IntsAt.at_ JH.out.j (at0_of (k := k) (by rw [splitL_len, kidL_len]; exact hlt))
                  rw [Z2.out k] at c4
                  go_wp2
                  go_roundw
                  case rel => exact ⟨k + 1, by omega, by go_num, by trivial⟩
                  case measure => simp [intOf]; omega
                · obtain rfl : k = (kidsN ns m).length := by omega
                  go_wp2_with (go_at_call 17; go_must (refine (works_any _).mono ?_; rintro e w6 ⟨rfl, hb6⟩; have P6 := JH.out.next hb6))
                  go_ret
                  exact ⟨rfl, P6.e.e.hb⟩
            · have hs1 : 0 < s := by omega
              have hsb0 : (s == 0) = false := by simpa using hs0
              have hsL : lSum (kidL ns m) = s := HS.out
              have hkv0 : kv = 0 := by
                rw [← HKV.out]
                unfold splitL
                rw [if_pos (by rw [hsL]; exact hs1)]
              subst hkv0
              have HSL := Lib.hid hsL
              have hst := near_start (P := P) HWK.out (by rw [hsL]; exact hs1)
              have HST := Lib.hid hst
              clear hsL hst
              go_wp2_with (first
                | (go_at_call 33; go_must (refine HSP.out.mono ?_; rintro e w4 ⟨B4, d4, rfl, hI4, hb4⟩; have J4 : EnvJ w A c ns B ((kidsN ns m).map (fun i : Nat => (i : Int))) B4 (splitL P (kidL ns m)).1 w4 := ⟨Pr.next hb4, hI4⟩; have mc4 := J4.e.e.bC.cell))
                | (go_at_call 31; go_must (refine (refSum_is A c ns m hg w4 J4.e.e.hN s HS.out).mono ?_; rintro e w5 ⟨rfl, hb5⟩; have J5 := J4.next hb5)))
              have JH := Lib.hid J5
              clear J4 J5 mc mc4 hI4
              go_loopw [14, 15] (fun mo i wq => ∃ (k : Nat) (b : Bool), k ≤ (kidsN ns m).length ∧ mo = .bool b ∧ i = .int .i64 k ∧ Below w5.heap.size w5 wq ∧ Hid (nearMore (kidL ns m) P k = b)) (fun _ i _ => (kidsN ns m).length - (intOf i).toNat)
              case atStart => exact ⟨0, true, Nat.zero_le _, rfl, rfl, Below.refl _ _, HST⟩
              case round =>
                obtain ⟨k, mb, hk, rfl, rfl, hbq, HM⟩ := hrel
                have Jq := JH.out.next hbq
                by_cases hlt : k < (kidsN ns m).length
                · obtain ⟨v, hv⟩ : ∃ v, at0 (splitL P (kidL ns m)).1 k = v := ⟨_, rfl⟩
                  obtain ⟨x, hx, hxl, _, hxk, hxi⟩ := kid_at hlt
                  obtain ⟨ww, hww⟩ : ∃ ww, (nodeAt ns x).w = ww := ⟨_, rfl⟩
                  obtain ⟨part, hpart⟩ : ∃ q, P * ww / s = q := ⟨_, rfl⟩
                  have hstep := near_step HWK.out HFR.out hpc.1 (by rw [HSL.out]; exact hs1) (by rw [kidL_len]; exact hlt) hv (by rw [hxk, hww, HSL.out, hpart]) (by rw [hxk, hww])
                  have hw9 := hg.ws x _ (GoodC.at_ hxl)
                  rw [hww] at hw9
                  have hq := quo_small hpc.1 hpc.2 hw9.1 hw9.2 hs1
                  obtain ⟨q1, q2, q3, q4⟩ := hq
                  rw [hpart] at q3 q4
                  obtain ⟨b4, o4, rfl, _, c4⟩ := IntsAt.at_ Jq.j (at0_of (k := k) (by rw [splitL_len, kidL_len]; exact hlt))
                  rw [hv] at c4
                  obtain ⟨b, off, rfl, _, hcx⟩ := IntsAt.at_ Jq.e.i hxi
                  obtain ⟨b2, off2, rfl, _, c1, c2, c3⟩ := Jq.e.e.hN.at_ (GoodC.at_ (ns := ns) hxl)
                  rw [hww] at c2
                  have mc := extB_cell Jq.e.e.bC.cell
                  have mx := extB_cell hcx
                  have m2 := extB_cell c2
                  have m4 := extB_cell c4
                  have hm0 := HM.out
                  clear hcx c1 c2 c3 c4 hx hxi hxk hv hww HM
                  rcases hstep with ⟨rfl, hw0, e1, e2⟩ | ⟨rfl, hw0, e2⟩ | ⟨rfl, hw0, e2⟩
                  · rw [e1] at hm0
                    subst hm0
                    have HE2 := Lib.hid e2
                    clear e1 e2
                    go_wp2
                    refine wp_region_ext (by kernel_rfl) (by kernel_rfl) ?_
                    repeat (go_big_quiet_step (fail))
                    refine wpQuiet_nil ?_
                    rintro _ ⟨x1, rfl⟩
                    have hb6 := hb0to hbq (extB_below _ x1)
                    have c4 := m4 x1
                    go_wp2
                    go_roundw
                    case rel => first | exact ⟨k + 1, true, by omega, rfl, by go_num, hb6, HE2⟩ | ((repeat apply Exists.intro); exact ⟨⟨k + 1, true, by omega, rfl, by go_num, hb6, HE2⟩, rfl⟩)
                    case measure => simp [intOf]; omega
                  · have HE2 := Lib.hid e2
                    clear e2 hm0
                    go_wp2
                    refine wp_region_ext (by kernel_rfl) (by kernel_rfl) ?_
                    repeat (go_big_quiet_step (fail))
                    refine wpQuiet_nil ?_
                    rintro _ ⟨x1, rfl⟩
                    have hb6 := hb0to hbq (extB_below _ x1)
                    have c4 := m4 x1
                    go_wp2
                    go_roundw
                    case rel => first | exact ⟨k + 1, false, by omega, rfl, by go_num, hb6, HE2⟩ | ((repeat apply Exists.intro); exact ⟨⟨k + 1, false, by omega, rfl, by go_num, hb6, HE2⟩, rfl⟩)
                    case measure => simp [intOf]; omega
                  · subst hw0
                    have HE2 := Lib.hid (e2.trans hm0)
                    obtain rfl : v = 0 := by rw [← hpart]; simp
                    clear e2 hm0 hpart q1 q2 q3 q4
                    go_wp2
                    refine wp_region_ext (by kernel_rfl) (by kernel_rfl) ?_
                    repeat (go_big_quiet_step (fail))
                    refine wpQuiet_nil ?_
                    rintro _ ⟨x1, rfl⟩
                    have hb6 := hb0to hbq (extB_below _ x1)
                    have c4 := m4 x1
                    go_wp2
                    go_roundw
                    case rel => first | exact ⟨k + 1, mb, by omega, rfl, by go_num, hb6, HE2⟩ | ((repeat apply Exists.intro); exact ⟨⟨k + 1, mb, by omega, rfl, by go_num, hb6, HE2⟩, rfl⟩)
                    case measure => simp [intOf]; omega
                · obtain rfl : k = (kidsN ns m).length := by omega
                  go_wp2_with (go_at_call 17; go_must (refine (works_any _).mono ?_; rintro e w6 ⟨rfl, hb6⟩; have P6 := Jq.next hb6))
                  go_ret
                  exact ⟨rfl, P6.e.e.hb⟩
end Go.Proofs.Ytohoonbbjkefaaa
