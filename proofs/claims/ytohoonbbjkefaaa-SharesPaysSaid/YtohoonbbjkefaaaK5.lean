import Derived.Test.YtohoonbbjkefaaaK4
import Derived.Deep.RegionHeld3
namespace Go.Proofs.Ytohoonbbjkefaaa
open Go.RowKit

theorem wrong_any (ns ps : List Node) : ∀ k, k ≤ ps.length → ((wrongTo ns ps k).length = 0 ↔ (ps.take k).any (fun p => !agreesB ns p) = false)
  | 0, _ => by simp [wrongTo]
  | k + 1, hk => by
    have ih := wrong_any ns ps k (by omega)
    have hx : ps[k]? = some (nodeAt ps k) := GoodC.at_ (by omega)
    have ht : ps.take (k + 1) = ps.take k ++ [nodeAt ps k] := by rw [List.take_add_one, hx]; rfl
    rw [ht, List.any_append]
    simp only [wrongTo, List.any_cons, List.any_nil, Bool.or_false]
    cases hq : agreesB ns (nodeAt ps k)
    · simp
    · simp only [Bool.not_true, Bool.or_false]
      exact ih
theorem wrong_none {ns ps : List Node} {b : Bool} (h : ps.any (fun p => !agreesB ns p) = b) : (((wrongTo ns ps ps.length).length : Int) == 0) = !b := by
  have h1 := wrong_any ns ps ps.length (Nat.le_refl _)
  rw [List.take_length, h] at h1
  cases b
  · have := h1.2 rfl
    rw [this]; rfl
  · have h2 : ¬ (wrongTo ns ps ps.length).length = 0 := fun h3 => by have := h1.1 h3; cases this
    simp only [Bool.not_true, beq_eq_false_iff_ne]
    omega

set_option maxRecDepth 100000 in
set_option maxHeartbeats 4000000 in
theorem in_any (A : Option Addr) (c : Nat) (l : List Int) (n : Int) (hl : l.length ≤ 1000) (w : World) (hI : IntsAt w w.heap.size A l) :
    Calls Try.prog 58 #[.slice A l.length c, .int .i64 n] w fun e w' => e = .returned (.bool (decide (n ∈ l))) ∧ w = w' := by
  have HI := Lib.hid hI
  clear hI
  go_enter Try.func58, Try.ntmps58
  go_wp2
  go_loopw [5] (fun i wr => ∃ k : Nat, k ≤ l.length ∧ i = .int .i64 k ∧ Hid (¬ n ∈ l.take k) ∧ w = wr) (fun i _ => l.length - (intOf i).toNat)
  case atStart => exact ⟨0, Nat.zero_le _, rfl, Lib.hid (by simp), rfl⟩
  case round =>
    obtain ⟨k, hk, rfl, HK, rfl⟩ := hrel
    by_cases hlt : k < l.length
    · obtain ⟨x, hx⟩ : ∃ x, l[k]? = some x := ⟨_, List.getElem?_eq_getElem hlt⟩
      obtain ⟨b, off, rfl, hbb, c1⟩ := HI.out.at_ hx
      have htk : l.take (k + 1) = l.take k ++ [x] := by rw [List.take_add_one, hx]; rfl
      have HT := Lib.hid htk
      have HX := Lib.hid hx
      clear hx htk
      by_cases hxn : x = n
      · have hm : decide (n ∈ l) = true := decide_eq_true (by rw [← hxn]; exact List.mem_of_getElem? HX.out)
        have HM := Lib.hid hm
        subst hxn
        clear hm
        go_wp2
        go_ret
        exact ⟨by rw [HM.out]; rfl, rfl⟩
      · have g1 : (x == n) = false := by simpa using hxn
        have HN := Lib.hid hxn
        clear hxn
        go_wp2
        go_roundw
        case rel => exact ⟨k + 1, by omega, by go_num, Lib.hid (by
          rw [HT.out, List.mem_append]
          rintro (h | h)
          · exact HK.out h
          · exact HN.out (List.mem_singleton.1 h).symm), by trivial⟩
        case measure => simp [intOf]; omega
    · obtain rfl : k = l.length := by omega
      have hm : decide (n ∈ l) = false := decide_eq_false (by have := HK.out; rwa [List.take_length] at this)
      have HM := Lib.hid hm
      clear hm
      go_wp2
      go_ret
      exact ⟨by rw [HM.out]; rfl, rfl⟩
theorem in_is (A : Option Addr) (c : Nat) (l : List Int) (n : Int) (hl : l.length ≤ 1000) (w : World) (hI : IntsAt w w.heap.size A l) (b : Bool) (hb : decide (n ∈ l) = b) :
    Calls Try.prog 58 #[.slice A l.length c, .int .i64 n] w fun e w' => e = .returned (.bool b) ∧ w = w' := by
  rw [← hb]; exact in_any A c l n hl w hI
/-- The payments that do not agree, of a custom in which a node has another weight. -/
theorem wrongW (A A2 : Option Addr) (c c2 : Nat) (ns ps : List Node) (m : Nat) (x : Int) (hg : GoodC ns) (hx : 0 ≤ x ∧ x ≤ 9) (hp : ps.length ≤ 1000) (hpa : ps.all (payOK ns.length) = true) (L : List Int) (hL : wrongTo (setW ns m x) ps ps.length = L) (w : World) (hN : Nodes w w.heap.size A (setW ns m x)) (hP : Nodes w w.heap.size A2 ps) :
    Calls Try.prog 76 #[.agg #[.slice A ns.length c], .slice A2 ps.length c2] w fun e w' => ∃ B d, e = .returned (.slice B L.length d) ∧ Below w.heap.size w w' := by
  have := refwrong_any A A2 c c2 (setW ns m x) ps (setW_good hg m hx) hp (by rw [setW_len]; exact hpa) w hN hP
  rw [setW_len, hL] at this
  exact this.mono fun e w' ⟨B, d, h1, _, h2⟩ => ⟨B, d, h1, h2⟩
theorem wts_yes {ns ps : List Node} {n k : Nat} (h : ps.any (fun p => !agreesB (setW ns n k) p) = false) : wtsTo ns n ps (k + 1) = wtsTo ns n ps k ++ [(k : Int)] := by
  simp only [wtsTo]
  rw [h]
  rfl
theorem wts_no {ns ps : List Node} {n k : Nat} (h : ps.any (fun p => !agreesB (setW ns n k) p) = true) : wtsTo ns n ps (k + 1) = wtsTo ns n ps k := by
  simp only [wtsTo]
  rw [h]
  rfl

set_option maxRecDepth 100000 in
set_option maxHeartbeats 4000000 in
theorem refWeights_ok (A A2 : Option Addr) (c c2 : Nat) (ns ps : List Node) (node : Int) (hA : A = none → c = 0 ∧ ns = []) (hn : ns.length ≤ 1000) (hp : ps.length ≤ 1000) (w : World) (hN : Nodes w w.heap.size A ns) (hP : Nodes w w.heap.size A2 ps) :
    Calls Try.prog 42 #[.agg #[.slice A ns.length c], .int .i64 node, .slice A2 ps.length c2] w fun e w' => ∃ Ao co, e = .returned (.tuple #[.slice Ao (wtsV ns node ps).length co, .int .i64 (wtsR ns node ps)]) ∧ IntsAt w' w'.heap.size Ao (wtsV ns node ps) ∧ Below w.heap.size w w' := by
  obtain ⟨W0, hW0⟩ : ∃ W0, w.alloc (.cells #[.slice A ns.length c] 24) = W0 := ⟨_, rfl⟩
  have E0 : Env w A c ns W0 := by rw [← hW0]; exact Env.new c hN
  have HP0 := Lib.hid (show Nodes W0 W0.heap.size A2 ps by rw [← hW0]; exact Nodes.alloc hP _)
  have EH := Lib.hid E0
  have l1 := extB_cell E0.bC.cell
  have HA := Lib.hid hA
  clear E0 hN hP hA
  obtain ⟨t1, h1⟩ : ∃ b, inR node 0 (ns.length - 1) = b := ⟨_, rfl⟩
  obtain ⟨t2, h2⟩ : ∃ b, decide (0 < node) = b := ⟨_, rfl⟩
  have hE : wtsE ns node ps = askE ns (t1 && t2) ps := by unfold wtsE; rw [h1, h2]
  have G1 := Lib.hid h1
  obtain ⟨ee, hee⟩ : ∃ ee, wtsE ns node ps = ee := ⟨_, rfl⟩
  cases t1 <;> cases t2
  all_goals
    simp only [Bool.and_true, Bool.and_false] at hE
    rcases err_cases ee with rfl | ⟨hne, hneb⟩
    · have HEE := Lib.hid hee
      rw [hE] at hee
      obtain ⟨z1, z2, z3, z4⟩ := askE_zero hee
      have HE := Lib.hid hee
      first
        | (exfalso; revert z2; decide)
        | (have hg := good_of z1
           have h0 := of_decide_eq_true h2
           obtain ⟨m, rfl⟩ : ∃ m : Nat, node = m := ⟨node.toNat, by omega⟩
           have hm : m < ns.length := by have := (inR_true.1 h1).2; omega
           have Z4 := Lib.hid z4
           have g2 : decide (0 < m) = true := decide_eq_true (by omega)
           clear z1 z2 z4 hE hee h1
           go_enter Try.func42, Try.ntmps42
           go_wp2
           clear hW0
           refine wp_region_ext (by kernel_rfl) (by kernel_rfl) ?_
           repeat (go_big_quiet_step (first
             | (go_at_call 27; exact ext_call (refIsNode_is _ _ _ _ _ hn _ G1.out))
             | (go_at_call 75; exact ext_call (refPaid_is _ _ _ _ ns ps _ hn hp _ (Nodes.lt EH.out.hN (extB_below _ _)) (Nodes.lt HP0.out (extB_below _ _)) _ HE.out))))
           refine wpQuiet_nil ?_
           rintro _ ⟨x1, rfl⟩
           obtain ⟨W1, hW1⟩ : ∃ W1, extB W0 x1 = W1 := ⟨_, rfl⟩
           have E1 := Lib.hid (EH.out.next (extB_below W0 x1))
           have P1 := Lib.hid (Nodes.lt HP0.out (extB_below W0 x1))
           rw [hW1] at E1 P1 ⊢
           clear hW1 l1
           go_wp2
           go_loopw [9, 10] (fun v i wr => ∃ k : Nat, k ≤ 10 ∧ i = .int .i64 k ∧ Hid (Ints wr W1.heap.size v (wtsTo ns m ps k)) ∧ Below W1.heap.size W1 wr) (fun _ i _ => 10 - (intOf i).toNat)
           case atStart => exact ⟨0, by omega, rfl, Lib.hid (ints_nil _ _), Below.refl _ _⟩
           case round =>
             obtain ⟨k, hk, rfl, HV, hb⟩ := hrel
             have Er := Lib.hid (E1.out.next hb)
             have Pr := Lib.hid (Nodes.lt P1.out hb)
             have q0 := Er.out.bC.cell
             by_cases hlt : k < 10
             · have hlen : (wtsTo ns m ps k).length ≤ 1000 := Nat.le_trans (wtsTo_len ns m ps k) (by omega)
               obtain ⟨L, hL⟩ : ∃ L, wrongTo (setW ns m k) ps ps.length = L := ⟨_, rfl⟩
               have HL := Lib.hid hL
               cases hq : ps.any (fun p => !agreesB (setW ns m k) p)
               · have hl0 := wrong_none hq
                 rw [hL] at hl0
                 dsimp only [Bool.not] at hl0
                 have HQ := Lib.hid hq
                 clear hq hL
                 go_wp2_with (first
                   | (go_at_call 80; go_must (refine (weighing_any A c ns m k HA.out hm hn wr Er.out.hN).mono ?_; rintro e w2 ⟨g, off, cap, rfl, hN2, hb2⟩))
                   | (go_at_call 76; go_must (refine (wrongW _ A2 cap c2 ns ps m k hg (by omega) hp Z4.out L HL.out w2 hN2 (Nodes.lt Pr.out hb2)).mono ?_; rintro e w3 ⟨B, d, rfl, hb3⟩; have hbr := hb0to hb2 hb3))
                   | (at_builtin; go_must (refine wpl_app rfl (.tmp 36) (.tmp 38) rfl W1.heap.size W1.heap.size _ (wtsTo ns m ps k) k rfl (Ints.below_ HV.out (hbr.alloc hbr.size _) (Nat.le_refl _)) ⟨w3.heap.size, 0, none⟩ 1 rfl (Boxed.cell (Boxed.new w3 3 (.int .i64 k))) hlen (by have := hb.size; have := hbr.size; simp; omega) (Nat.le_refl _) ?_; intro v' w4 hown4 hb7)))
                 go_roundw
                 case rel => exact ⟨k + 1, by omega, by go_num, Lib.hid (by rw [wts_yes HQ.out]; exact hown4), (hb.trans ((hbr.alloc hbr.size _).mono hb.size)).trans hb7⟩
                 case measure => simp [intOf]; omega
               · have hl0 := wrong_none hq
                 rw [hL] at hl0
                 dsimp only [Bool.not] at hl0
                 have HQ := Lib.hid hq
                 clear hq hL
                 go_wp2_with (first
                   | (go_at_call 80; go_must (refine (weighing_any A c ns m k HA.out hm hn wr Er.out.hN).mono ?_; rintro e w2 ⟨g, off, cap, rfl, hN2, hb2⟩))
                   | (go_at_call 76; go_must (refine (wrongW _ A2 cap c2 ns ps m k hg (by omega) hp Z4.out L HL.out w2 hN2 (Nodes.lt Pr.out hb2)).mono ?_; rintro e w3 ⟨B, d, rfl, hb3⟩; have hbr := hb0to hb2 hb3)))
                 go_roundw
                 case rel => exact ⟨k + 1, by omega, by go_num, Lib.hid (by rw [wts_no HQ.out]; exact Ints.below_ HV.out hbr (Nat.le_refl _)), hb.trans (hbr.mono hb.size)⟩
                 case measure => simp [intOf]; omega
             · obtain rfl : k = 10 := by omega
               obtain ⟨A3, c3, rfl, _, hI3⟩ := Ints.lay HV.out
               have HI3 := Lib.hid hI3
               have hV : wtsV ns m ps = wtsTo ns m ps 10 := if_pos HEE.out
               have hR : wtsR ns m ps = if (wtsTo ns m ps 10).length = 0 then 3 else 0 := if_pos HEE.out
               have HV' := Lib.hid hV
               have HR' := Lib.hid hR
               clear hI3 hV hR HV
               obtain ⟨L, hL⟩ : ∃ L, wtsTo ns m ps 10 = L := ⟨_, rfl⟩
               rw [hL] at HI3 HV' HR' ⊢
               clear hL
               by_cases hl0 : L.length = 0
               · have g1 : ((L.length : Int) == 0) = true := by simpa using hl0
                 have hLn : L = [] := List.length_eq_zero_iff.1 hl0
                 have HLn := Lib.hid hLn
                 clear hl0 hLn
                 go_wp2
                 go_ret2
                 exact ⟨none, 0, by rw [HV'.out, HR'.out, HLn.out]; rfl, by rw [HV'.out, HLn.out]; exact .inl rfl, Er.out.hb⟩
               · have g1 : ((L.length : Int) == 0) = false := by simpa using hl0
                 have HL0 := Lib.hid hl0
                 clear hl0
                 go_wp2
                 go_ret2
                 exact ⟨A3, c3, by rw [HV'.out, HR'.out, if_neg HL0.out]; rfl, by rw [HV'.out]; exact HI3.out, Er.out.hb⟩)
    · have hV : wtsV ns node ps = [] := if_neg (by rw [hee]; exact hne)
      have hR : wtsR ns node ps = ee := by unfold wtsR; rw [hee]; exact if_neg hne
      rw [hE] at hee
      have HE := Lib.hid hee
      have HV' := Lib.hid hV
      have HR' := Lib.hid hR
      clear hE hee h1 hV hR hne
      go_enter Try.func42, Try.ntmps42
      go_wp2
      clear hW0
      refine wp_region_ext (by kernel_rfl) (by kernel_rfl) ?_
      repeat (go_big_quiet_step (first
        | (go_at_call 27; exact ext_call (refIsNode_is _ _ _ _ _ hn _ G1.out))
        | (go_at_call 75; exact ext_call (refPaid_is _ _ _ _ ns ps _ hn hp _ (Nodes.lt EH.out.hN (extB_below _ _)) (Nodes.lt HP0.out (extB_below _ _)) _ HE.out))))
      refine wpQuiet_nil ?_
      rintro _ ⟨x1, rfl⟩
      have hb1 := (EH.out.next (extB_below W0 x1)).hb
      go_wp2
      go_ret2
      exact ⟨none, 0, by rw [HV'.out, HR'.out]; rfl, by rw [HV'.out]; exact .inl rfl, hb1⟩
end Go.Proofs.Ytohoonbbjkefaaa
