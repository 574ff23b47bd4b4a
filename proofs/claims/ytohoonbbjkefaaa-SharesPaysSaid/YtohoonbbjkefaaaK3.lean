import Derived.Test.YtohoonbbjkefaaaH4
import Derived.Test.YtohoonbbjkefaaaB12
import Derived.Test.YtohoonbbjkefaaaF7
import Derived.Test.YtohoonbbjkefaaaF5
namespace Go.Proofs.Ytohoonbbjkefaaa
open Go.RowKit

/-- The payments among the first k with which a custom does not agree. -/
def wrongTo (ns ps : List Node) : Nat → List Int
  | 0 => []
  | k + 1 => if agreesB ns (nodeAt ps k) then wrongTo ns ps k else wrongTo ns ps k ++ [(k : Int)]
theorem wrongTo_len (ns ps : List Node) : ∀ k, (wrongTo ns ps k).length ≤ k
  | 0 => Nat.le_refl _
  | k + 1 => by
    have := wrongTo_len ns ps k
    simp only [wrongTo]
    split
    · omega
    · simp; omega
theorem wrongTo_yes {ns ps : List Node} {k : Nat} (h : agreesB ns (nodeAt ps k) = true) : wrongTo ns ps (k + 1) = wrongTo ns ps k := by simp [wrongTo, h]
theorem wrongTo_no {ns ps : List Node} {k : Nat} (h : agreesB ns (nodeAt ps k) = false) : wrongTo ns ps (k + 1) = wrongTo ns ps k ++ [(k : Int)] := by simp [wrongTo, h]
def wrongE (ns ps : List Node) : Int := askE ns true ps
def wrongL (ns ps : List Node) : List Int := if wrongE ns ps = 0 then wrongTo ns ps ps.length else []
theorem pay_at {N : Nat} {ps : List Node} (h : ps.all (payOK N) = true) {k : Nat} (hk : k < ps.length) : payOK N (nodeAt ps k) = true :=
  (List.all_eq_true.1 h) _ (List.mem_of_getElem? (GoodC.at_ hk))
theorem agrees_is (A : Option Addr) (c : Nat) (ns : List Node) (p : Node) (hg : GoodC ns) (hp : payOK ns.length p = true) (w : World) (hN : Nodes w w.heap.size A ns) (b : Bool) (hb : agreesB ns p = b) :
    Calls Try.prog 74 #[.agg #[.slice A ns.length c], .agg #[.int .i64 p.u, .int .i64 p.w, .int .i64 p.f]] w fun e w' => e = .returned (.bool b) ∧ Below w.heap.size w w' := by
  rw [← hb]; exact agrees_any A c ns p hg hp w hN

set_option maxRecDepth 100000 in
set_option maxHeartbeats 4000000 in
theorem wrong_ok (A A2 : Option Addr) (c c2 : Nat) (ns ps : List Node) (hn : ns.length ≤ 1000) (hp : ps.length ≤ 1000) (w : World) (hN : Nodes w w.heap.size A ns) (hP : Nodes w w.heap.size A2 ps) (hz : wrongE ns ps = 0) :
    Calls Try.prog 39 #[.agg #[.slice A ns.length c], .slice A2 ps.length c2] w fun e w' => ∃ B d, e = .returned (.tuple #[.slice B (wrongTo ns ps ps.length).length d, .int .i64 0]) ∧ IntsAt w' w'.heap.size B (wrongTo ns ps ps.length) ∧ Below w.heap.size w w' := by
  obtain ⟨W0, hW0⟩ : ∃ W0, w.alloc (.cells #[.slice A ns.length c] 24) = W0 := ⟨_, rfl⟩
  have E0 : Env w A c ns W0 := by rw [← hW0]; exact Env.new c hN
  have HP0 := Lib.hid (show Nodes W0 W0.heap.size A2 ps by rw [← hW0]; exact Nodes.alloc hP _)
  have hsz0 : w.heap.size + 1 ≤ W0.heap.size := by rw [← hW0]; simp
  have EH := Lib.hid E0
  have q0 := E0.bC.cell
  have HZ := Lib.hid hz
  obtain ⟨z1, _, z3, z4⟩ := askE_zero hz
  have hg := good_of z1
  have Z4 := Lib.hid z4
  clear E0 hN hP hz z1 z4
  go_enter Try.func39, Try.ntmps39
  go_wp2_with (go_at_call 60; go_must (refine (ask_is A A2 c c2 ns ps true hn hp W0 EH.out.hN HP0.out 0 HZ.out).mono ?_; rintro e w1 ⟨rfl, hb1⟩))
  have E1 := Lib.hid (EH.out.next hb1)
  have P1 := Lib.hid (Nodes.lt HP0.out hb1)
  have hsz1 : w.heap.size + 1 ≤ w1.heap.size := Nat.le_trans hsz0 hb1.size
  clear q0
  go_loopw [7, 8, 9, 18] (fun v _ _ i wr => ∃ k : Nat, k ≤ ps.length ∧ i = .int .i64 k ∧ Hid (Ints wr w1.heap.size v (wrongTo ns ps k)) ∧ Below w1.heap.size w1 wr) (fun _ _ _ i _ => ps.length - (intOf i).toNat)
  case atStart => exact ⟨0, Nat.zero_le _, rfl, Lib.hid (ints_nil _ _), Below.refl _ _⟩
  case round =>
    obtain ⟨k, hk, rfl, HV, hb⟩ := hrel
    have Er := Lib.hid (E1.out.next hb)
    by_cases hlt : k < ps.length
    · obtain ⟨x, hx⟩ : ∃ x, nodeAt ps k = x := ⟨_, rfl⟩
      obtain ⟨b, off, rfl, _, c1, c2, c3⟩ := (Nodes.lt P1.out hb).at_ (GoodC.at_ hlt)
      rw [hx] at c1 c2 c3
      have hpay := pay_at Z4.out hlt
      rw [hx] at hpay
      have HPAY := Lib.hid hpay
      have HX := Lib.hid hx
      have hA := (Below.refl _ wr).alloc (Nat.le_refl _) (.cells #[.int .i64 x.u, .int .i64 x.w, .int .i64 x.f] 72)
      have m1 := below_cell hA Er.out.bC.cell
      have hlen : (wrongTo ns ps k).length ≤ 1000 := Nat.le_trans (wrongTo_len ns ps k) (by omega)
      clear hx hpay
      cases hq : agreesB ns x
      · have HQ := Lib.hid hq
        clear hq
        go_wp2_with (first
          | (go_at_call 74; go_must (refine (agrees_is A c ns x hg HPAY.out _ (Nodes.lt Er.out.hN hA) _ HQ.out).mono ?_; rintro e w2 ⟨rfl, hb2⟩; have hbr := hb0to hA hb2))
          | (at_builtin; go_must (refine wpl_app rfl (.tmp 28) (.tmp 30) rfl w1.heap.size w1.heap.size _ (wrongTo ns ps k) k rfl (Ints.below_ HV.out (hbr.alloc hbr.size _) (Nat.le_refl _)) ⟨w2.heap.size, 0, none⟩ 1 rfl (Boxed.cell (Boxed.new w2 3 (.int .i64 k))) hlen (by have := hb.size; have := hbr.size; simp; omega) (Nat.le_refl _) ?_; intro v' w4 hown4 hb7)))
        go_roundw
        case rel => exact ⟨k + 1, by omega, by go_num, Lib.hid (by rw [wrongTo_no (by rw [HX.out]; exact HQ.out)]; exact hown4), (hb.trans ((hbr.alloc hbr.size _).mono hb.size)).trans hb7⟩
        case measure => simp [intOf]; omega
      · have HQ := Lib.hid hq
        clear hq
        go_wp2_with (go_at_call 74; go_must (refine (agrees_is A c ns x hg HPAY.out _ (Nodes.lt Er.out.hN hA) _ HQ.out).mono ?_; rintro e w2 ⟨rfl, hb2⟩; have hbr := hb0to hA hb2))
        go_roundw
        case rel => exact ⟨k + 1, by omega, by go_num, Lib.hid (by rw [wrongTo_yes (by rw [HX.out]; exact HQ.out)]; exact Ints.below_ HV.out hbr (Nat.le_refl _)), hb.trans (hbr.mono hb.size)⟩
        case measure => simp [intOf]; omega
    · obtain rfl : k = ps.length := by omega
      obtain ⟨A3, c3, rfl, _, hI3⟩ := Ints.lay HV.out
      have HI3 := Lib.hid hI3
      clear hI3
      go_wp2
      go_ret2
      exact ⟨A3, c3, rfl, HI3.out, Er.out.hb⟩
end Go.Proofs.Ytohoonbbjkefaaa
namespace Go.Proofs.Ytohoonbbjkefaaa
open Go.RowKit

set_option maxRecDepth 100000 in
set_option maxHeartbeats 4000000 in
theorem wrong_no (A A2 : Option Addr) (c c2 : Nat) (ns ps : List Node) (hn : ns.length ≤ 1000) (hp : ps.length ≤ 1000) (w : World) (hN : Nodes w w.heap.size A ns) (hP : Nodes w w.heap.size A2 ps) (e : Int) (hz : wrongE ns ps = e) (he : e ≠ 0) :
    Calls Try.prog 39 #[.agg #[.slice A ns.length c], .slice A2 ps.length c2] w fun x w' => x = .returned (.tuple #[.slice none 0 0, .int .i64 e]) ∧ Below w.heap.size w w' := by
  obtain ⟨W0, hW0⟩ : ∃ W0, w.alloc (.cells #[.slice A ns.length c] 24) = W0 := ⟨_, rfl⟩
  have E0 : Env w A c ns W0 := by rw [← hW0]; exact Env.new c hN
  have HP0 := Lib.hid (show Nodes W0 W0.heap.size A2 ps by rw [← hW0]; exact Nodes.alloc hP _)
  have EH := Lib.hid E0
  have q0 := E0.bC.cell
  have HZ := Lib.hid hz
  have hb : (e != 0) = true := by simpa using he
  clear E0 hN hP hz he
  go_enter Try.func39, Try.ntmps39
  go_wp2_with (go_at_call 60; go_must (refine (ask_is A A2 c c2 ns ps true hn hp W0 EH.out.hN HP0.out e HZ.out).mono ?_; rintro e w1 ⟨rfl, hb1⟩))
  go_ret2
  exact ⟨rfl, (EH.out.next hb1).hb⟩

set_option maxRecDepth 100000 in
set_option maxHeartbeats 4000000 in
theorem arePays_any (A A2 : Option Addr) (N c c2 : Nat) (ps : List Node) (hn : N ≤ 1000) (hp : ps.length ≤ 9223372036854775807) (w : World) (hP : Nodes w w.heap.size A2 ps) :
    Calls Try.prog 56 #[.agg #[.slice A N c], .slice A2 ps.length c2] w fun e w' => e = .returned (.bool (ps.all (payOK N))) ∧ Below w.heap.size w w' := by
  obtain ⟨W0, hW0⟩ : ∃ W0, w.alloc (.cells #[.slice A N c] 24) = W0 := ⟨_, rfl⟩
  have b1 : Boxed W0 w.heap.size 24 (.slice A N c) := by rw [← hW0]; exact Boxed.new _ _ _
  have hB0 : Below w.heap.size w W0 := by rw [← hW0]; exact (Below.refl _ w).alloc (Nat.le_refl _) _
  have HP0 := Lib.hid (Nodes.lt hP hB0)
  have B1 := Lib.hid b1
  clear hP b1
  go_enter Try.func56, Try.ntmps56
  go_wp2
  go_loopw [5] (fun i wr => ∃ k : Nat, k ≤ ps.length ∧ i = .int .i64 k ∧ Hid (∀ j, j < k → payOK N (nodeAt ps j) = true) ∧ Below W0.heap.size W0 wr) (fun i _ => ps.length - (intOf i).toNat)
  case atStart => exact ⟨0, Nat.zero_le _, rfl, Lib.hid (fun j hj => by omega), Below.refl _ _⟩
  case round =>
    obtain ⟨k, hk, rfl, HK, hb⟩ := hrel
    have hbw := hb0to hB0 hb
    by_cases hlt : k < ps.length
    · obtain ⟨x, hx⟩ : ∃ x, nodeAt ps k = x := ⟨_, rfl⟩
      obtain ⟨b, off, rfl, _, c1, c2, c3⟩ := (Nodes.lt HP0.out hb).at_ (GoodC.at_ hlt)
      rw [hx] at c1 c2 c3
      have e0 := extB_cell (boxed_ext hb B1.out).cell
      have e1 := extB_cell c1
      have e2 := extB_cell c2
      have e3 := extB_cell c3
      have HX := Lib.hid hx
      clear hx c1 c2 c3
      cases h1 : inR x.u 0 400 <;> cases h2 : inR x.w 0 (N - 1) <;> cases h3 : inR x.f 0 400
      all_goals
        have G1 := Lib.hid h1
        have G2 := Lib.hid h2
        have G3 := Lib.hid h3
        have HPY := Lib.hid (show payOK N x = _ from by rw [payOK, h1, h2, h3])
        clear h1 h2 h3
        go_wp2
        refine wp_region_ext (by kernel_rfl) (by kernel_rfl) ?_
        repeat (go_big_quiet_step (first
          | (go_at_call 27; exact ext_call (refIsNode_is _ _ _ _ _ hn _ G2.out))
          | (go_at_call 32; ((with_reducible refine ext_same (refIsPence_is x.u _ _ G1.out))))
          | (go_at_call 32; ((with_reducible refine ext_same (refIsPence_is x.f _ _ G3.out))))))
        refine wpQuiet_nil ?_
        rintro _ ⟨x1, rfl⟩
        have hb5 := hb0to hb (extB_below wr x1)
        go_wp2
        first
          | (go_ret
             refine ⟨?_, hb0to hB0 hb5⟩
             have hall : ps.all (payOK N) = false := by
               rw [List.all_eq_false]
               exact ⟨x, by rw [← HX.out]; exact List.mem_of_getElem? (GoodC.at_ hlt), by rw [HPY.out]; decide⟩
             rw [hall]; rfl)
          | (go_roundw
             case rel => exact ⟨k + 1, by omega, by go_num, Lib.hid (fun j hj => by
               by_cases e : j = k
               · rw [e, HX.out, HPY.out]; rfl
               · exact HK.out j (by omega)), hb5⟩
             case measure => simp [intOf]; omega)
    · obtain rfl : k = ps.length := by omega
      go_wp2
      go_ret
      refine ⟨?_, hbw⟩
      have hall : ps.all (payOK N) = true := by
        rw [List.all_eq_true]
        intro y hy
        obtain ⟨j, hj, rfl⟩ := List.getElem_of_mem hy
        have := HK.out j hj
        have e : ps[j]? = some (nodeAt ps j) := GoodC.at_ hj
        rw [List.getElem?_eq_getElem hj] at e
        rw [Option.some.inj e]
        exact this
      rw [hall]; rfl
theorem arePays_is (A A2 : Option Addr) (N c c2 : Nat) (ps : List Node) (hn : N ≤ 1000) (hp : ps.length ≤ 9223372036854775807) (w : World) (hP : Nodes w w.heap.size A2 ps) (b : Bool) (hb : ps.all (payOK N) = b) :
    Calls Try.prog 56 #[.agg #[.slice A N c], .slice A2 ps.length c2] w fun e w' => e = .returned (.bool b) ∧ Below w.heap.size w w' := by
  rw [← hb]; exact arePays_any A A2 N c c2 ps hn hp w hP

set_option maxRecDepth 100000 in
set_option maxHeartbeats 4000000 in
theorem refPaid_any (A A2 : Option Addr) (c c2 : Nat) (ns ps : List Node) (is : Bool) (hn : ns.length ≤ 1000) (hp : ps.length ≤ 1000) (w : World) (hN : Nodes w w.heap.size A ns) (hP : Nodes w w.heap.size A2 ps) :
    Calls Try.prog 75 #[.agg #[.slice A ns.length c], .slice A2 ps.length c2, .bool is] w fun e w' => e = .returned (.int .i64 (askE ns is ps)) ∧ Below w.heap.size w w' := by
  have E0 := Env.new c hN
  have HP0 := Lib.hid (Nodes.alloc hP (.cells #[.slice A ns.length c] 24))
  have EH := Lib.hid E0
  have q0 := E0.bC.cell
  clear E0 hN hP
  cases hv : validB ns
  · have HC := Lib.hid (refCheck_is A c ns hn _ EH.out.hN 100 (ckE_no hv))
    have HA := Lib.hid (show askE ns is ps = 100 from by rw [askE, hv]; rfl)
    clear hv
    go_enter Try.func75, Try.ntmps75
    go_wp2_with (go_at_call 47; go_must (refine HC.out.mono ?_; rintro e w1 ⟨rfl, hb1⟩))
    go_ret
    exact ⟨by rw [HA.out]; rfl, (EH.out.next hb1).hb⟩
  · have HC := Lib.hid (refCheck_is A c ns hn _ EH.out.hN 0 (ckE_yes hv))
    by_cases h6 : 6 < ps.length
    · have HA := Lib.hid (show askE ns is ps = 2 from by rw [askE, hv, if_pos rfl, if_pos h6])
      clear hv
      go_enter Try.func75, Try.ntmps75
      go_wp2_with (go_at_call 47; go_must (refine HC.out.mono ?_; rintro e w1 ⟨rfl, hb1⟩))
      go_ret
      exact ⟨by rw [HA.out]; rfl, (EH.out.next hb1).hb⟩
    · cases is
      · have HA := Lib.hid (show askE ns false ps = 1 from by rw [askE, hv, if_pos rfl, if_neg h6]; rfl)
        clear hv
        go_enter Try.func75, Try.ntmps75
        go_wp2_with (go_at_call 47; go_must (refine HC.out.mono ?_; rintro e w1 ⟨rfl, hb1⟩))
        go_ret
        exact ⟨by rw [HA.out]; rfl, (EH.out.next hb1).hb⟩
      · cases hq : ps.all (payOK ns.length)
        all_goals
          have HQ := Lib.hid hq
          have HA := Lib.hid (show askE ns true ps = _ from by rw [askE, hv, if_pos rfl, if_neg h6, hq])
          clear hv hq
          go_enter Try.func75, Try.ntmps75
          go_wp2_with (first
            | (go_at_call 47; go_must (refine HC.out.mono ?_; rintro e w1 ⟨rfl, hb1⟩; have E1 := EH.out.next hb1; have m1 := E1.bC.cell))
            | (go_at_call 56; go_must (refine (arePays_is A A2 ns.length c c2 ps hn (by omega) w1 (Nodes.lt HP0.out hb1) _ HQ.out).mono ?_; rintro e w2 ⟨rfl, hb2⟩; have E2 := E1.next hb2)))
          go_ret
          exact ⟨by rw [HA.out]; rfl, E2.hb⟩
theorem refPaid_is (A A2 : Option Addr) (c c2 : Nat) (ns ps : List Node) (is : Bool) (hn : ns.length ≤ 1000) (hp : ps.length ≤ 1000) (w : World) (hN : Nodes w w.heap.size A ns) (hP : Nodes w w.heap.size A2 ps) (e : Int) (he : askE ns is ps = e) :
    Calls Try.prog 75 #[.agg #[.slice A ns.length c], .slice A2 ps.length c2, .bool is] w fun x w' => x = .returned (.int .i64 e) ∧ Below w.heap.size w w' := by
  rw [← he]; exact refPaid_any A A2 c c2 ns ps is hn hp w hN hP
end Go.Proofs.Ytohoonbbjkefaaa
namespace Go.Proofs.Ytohoonbbjkefaaa
open Go.RowKit

theorem getsOf_at (A : Option Addr) (c : Nat) (ns : List Node) (P u : Int) (hg : GoodC ns) (hP : 0 ≤ P ∧ P ≤ 400) (hu : 0 ≤ u ∧ u ≤ ns.length - 1) (g : Int) (hgg : gotS ns P u.toNat = g) (w : World) (hN : Nodes w w.heap.size A ns) :
    Calls Try.prog 67 #[.agg #[.slice A ns.length c], .int .i64 u, .int .i64 P] w fun e w' => e = .returned (.int .i64 g) ∧ Below w.heap.size w w' := by
  obtain ⟨m, rfl⟩ : ∃ m : Nat, u = m := ⟨u.toNat, by omega⟩
  have := getsOf_any A c ns P hg hP.1 hP.2 m w (by omega) hN
  rw [← hgg]
  exact this
set_option maxRecDepth 100000 in
set_option maxHeartbeats 2000000 in
theorem refAgrees_any (A : Option Addr) (c : Nat) (ns : List Node) (p : Node) (hg : GoodC ns) (hp : payOK ns.length p = true) (w : World) (hN : Nodes w w.heap.size A ns) :
    Calls Try.prog 94 #[.agg #[.slice A ns.length c], .agg #[.int .i64 p.u, .int .i64 p.w, .int .i64 p.f]] w fun e w' => e = .returned (.bool (agreesB ns p)) ∧ Below w.heap.size w w' := by
  obtain ⟨a1, a2, a3⟩ := payOK_of hp
  obtain ⟨W0, hW0⟩ : ∃ W0, (w.alloc (.cells #[.slice A ns.length c] 24)).alloc (.cells #[.int .i64 p.u, .int .i64 p.w, .int .i64 p.f] 72) = W0 := ⟨_, rfl⟩
  have E0 : Env w A c ns W0 := by rw [← hW0]; exact (Env.new c hN).alloc _
  have t0 : Three W0 (w.heap.size + 1) p := by
    have := World.alloc_heap_new (w.alloc (.cells #[.slice A ns.length c] 24)) (.cells #[.int .i64 p.u, .int .i64 p.w, .int .i64 p.f] 72)
    rw [← hW0]; unfold Three; simpa only [World.size_alloc] using this
  obtain ⟨g, hgg⟩ : ∃ g, gotS ns p.u p.w.toNat = g := ⟨_, rfl⟩
  have HG := Lib.hid hgg
  have EH := Lib.hid E0
  have e0 := extB_cell E0.bC.cell
  have e1 := extB_cell t0.c0
  have e2 := extB_cell t0.c1
  have e3 := extB_cell t0.c2
  have HB := Lib.hid (show agreesB ns p = decide (g = p.f) from by rw [agreesB, hgg])
  have hbe : (g == p.f) = decide (g = p.f) := by rw [Bool.eq_iff_iff]; simp
  clear E0 t0 hN hp hgg
  cases hd : decide (g = p.f)
  all_goals
    rw [hd] at HB hbe
    clear hd
    go_enter Try.func94, Try.ntmps94
    go_wp2
    clear hW0
    refine wp_region_ext (by kernel_rfl) (by kernel_rfl) ?_
    repeat (go_big_quiet_step ((go_at_call 67; exact ext_call (getsOf_at A c ns p.u p.w hg a1 a2 g HG.out _ (Nodes.lt EH.out.hN (extB_below _ _))))))
    refine wpQuiet_nil ?_
    rintro _ ⟨x1, rfl⟩
    have hb1 := (EH.out.next (extB_below W0 x1)).hb
    go_wp2
    go_ret
    exact ⟨by rw [HB.out]; rfl, hb1⟩
theorem refAgrees_is (A : Option Addr) (c : Nat) (ns : List Node) (p : Node) (hg : GoodC ns) (hp : payOK ns.length p = true) (w : World) (hN : Nodes w w.heap.size A ns) (b : Bool) (hb : agreesB ns p = b) :
    Calls Try.prog 94 #[.agg #[.slice A ns.length c], .agg #[.int .i64 p.u, .int .i64 p.w, .int .i64 p.f]] w fun e w' => e = .returned (.bool b) ∧ Below w.heap.size w w' := by
  rw [← hb]; exact refAgrees_any A c ns p hg hp w hN

set_option maxRecDepth 100000 in
set_option maxHeartbeats 4000000 in
theorem refwrong_any (A A2 : Option Addr) (c c2 : Nat) (ns ps : List Node) (hg : GoodC ns) (hp : ps.length ≤ 1000) (hpa : ps.all (payOK ns.length) = true) (w : World) (hN : Nodes w w.heap.size A ns) (hP : Nodes w w.heap.size A2 ps) :
    Calls Try.prog 76 #[.agg #[.slice A ns.length c], .slice A2 ps.length c2] w fun e w' => ∃ B d, e = .returned (.slice B (wrongTo ns ps ps.length).length d) ∧ IntsAt w' w'.heap.size B (wrongTo ns ps ps.length) ∧ Below w.heap.size w w' := by
  obtain ⟨W0, hW0⟩ : ∃ W0, w.alloc (.cells #[.slice A ns.length c] 24) = W0 := ⟨_, rfl⟩
  have E0 : Env w A c ns W0 := by rw [← hW0]; exact Env.new c hN
  have HP0 := Lib.hid (show Nodes W0 W0.heap.size A2 ps by rw [← hW0]; exact Nodes.alloc hP _)
  have EH := Lib.hid E0
  have Z4 := Lib.hid hpa
  clear E0 hN hP hpa
  go_enter Try.func76, Try.ntmps76
  go_wp2
  go_loopw [5, 6] (fun v i wr => ∃ k : Nat, k ≤ ps.length ∧ i = .int .i64 k ∧ Hid (Ints wr W0.heap.size v (wrongTo ns ps k)) ∧ Below W0.heap.size W0 wr) (fun _ i _ => ps.length - (intOf i).toNat)
  case atStart => exact ⟨0, Nat.zero_le _, rfl, Lib.hid (ints_nil _ _), Below.refl _ _⟩
  case round =>
    obtain ⟨k, hk, rfl, HV, hb⟩ := hrel
    have Er := Lib.hid (EH.out.next hb)
    by_cases hlt : k < ps.length
    · obtain ⟨x, hx⟩ : ∃ x, nodeAt ps k = x := ⟨_, rfl⟩
      obtain ⟨b, off, rfl, _, c1, c2, c3⟩ := (Nodes.lt HP0.out hb).at_ (GoodC.at_ hlt)
      rw [hx] at c1 c2 c3
      have hpay := pay_at Z4.out hlt
      rw [hx] at hpay
      have HPAY := Lib.hid hpay
      have HX := Lib.hid hx
      have e0 := extB_cell Er.out.bC.cell
      have e1 := extB_cell c1
      have e2 := extB_cell c2
      have e3 := extB_cell c3
      have hlen : (wrongTo ns ps k).length ≤ 1000 := Nat.le_trans (wrongTo_len ns ps k) (by omega)
      clear hx hpay c1 c2 c3
      cases hq : agreesB ns x
      all_goals
        have HQ := Lib.hid hq
        clear hq
        go_wp2
        refine wp_region_ext (by kernel_rfl) (by kernel_rfl) ?_
        repeat (go_big_quiet_step ((go_at_call 94; exact ext_call (refAgrees_is A c ns x hg HPAY.out _ (Nodes.lt Er.out.hN (extB_below _ _)) _ HQ.out))))
        refine wpQuiet_nil ?_
        rintro _ ⟨x1, rfl⟩
        have hbr := extB_below wr x1
        obtain ⟨w2, hw2⟩ : ∃ w2, extB wr x1 = w2 := ⟨_, rfl⟩
        rw [hw2] at hbr ⊢
        clear hw2 e0 e1 e2 e3
      · go_wp2_with (at_builtin; go_must (refine wpl_app rfl (.tmp 20) (.tmp 22) rfl W0.heap.size W0.heap.size _ (wrongTo ns ps k) k rfl (Ints.below_ HV.out (hbr.alloc hbr.size _) (Nat.le_refl _)) ⟨w2.heap.size, 0, none⟩ 1 rfl (Boxed.cell (Boxed.new w2 3 (.int .i64 k))) hlen (by have := hb.size; have := hbr.size; simp; omega) (Nat.le_refl _) ?_; intro v' w4 hown4 hb7))
        go_roundw
        case rel => exact ⟨k + 1, by omega, by go_num, Lib.hid (by rw [wrongTo_no (by rw [HX.out]; exact HQ.out)]; exact hown4), (hb.trans ((hbr.alloc hbr.size _).mono hb.size)).trans hb7⟩
        case measure => simp [intOf]; omega
      · go_wp2
        go_roundw
        case rel => exact ⟨k + 1, by omega, by go_num, Lib.hid (by rw [wrongTo_yes (by rw [HX.out]; exact HQ.out)]; exact Ints.below_ HV.out hbr (Nat.le_refl _)), hb.trans (hbr.mono hb.size)⟩
        case measure => simp [intOf]; omega
    · obtain rfl : k = ps.length := by omega
      obtain ⟨A3, c3, rfl, _, hI3⟩ := Ints.lay HV.out
      have HI3 := Lib.hid hI3
      clear hI3
      go_wp2
      go_ret
      exact ⟨A3, c3, rfl, HI3.out, Er.out.hb⟩

set_option maxRecDepth 100000 in
set_option maxHeartbeats 4000000 in
theorem refWrong_all (A A2 : Option Addr) (c c2 : Nat) (ns ps : List Node) (hn : ns.length ≤ 1000) (hp : ps.length ≤ 1000) (w : World) (hN : Nodes w w.heap.size A ns) (hP : Nodes w w.heap.size A2 ps) (L : List Int) (hL : wrongL ns ps = L) (e : Int) (hE : wrongE ns ps = e) :
    Calls Try.prog 40 #[.agg #[.slice A ns.length c], .slice A2 ps.length c2] w fun x w' => ∃ B d, x = .returned (.tuple #[.slice B L.length d, .int .i64 e]) ∧ IntsAt w' w'.heap.size B L ∧ Below w.heap.size w w' := by
  have E0 := Env.new c hN
  have HP0 := Lib.hid (Nodes.alloc hP (.cells #[.slice A ns.length c] 24))
  have EH := Lib.hid E0
  have q0 := E0.bC.cell
  have HE := Lib.hid hE
  clear E0 hN hP
  rcases err_cases e with rfl | ⟨hne, hneb⟩
  · have hL' : L = wrongTo ns ps ps.length := by rw [← hL]; exact if_pos hE
    obtain ⟨z1, _, z3, z4⟩ := askE_zero hE
    have hg := good_of z1
    have Z4 := Lib.hid z4
    subst hL'
    clear hL hE z1 z4
    go_enter Try.func40, Try.ntmps40
    go_wp2_with (first
      | (go_at_call 75; go_must (refine (refPaid_is A A2 c c2 ns ps true hn hp _ EH.out.hN HP0.out 0 HE.out).mono ?_; rintro e w1 ⟨rfl, hb1⟩; have E1 := EH.out.next hb1; have m1 := E1.bC.cell))
      | (go_at_call 76; go_must (refine (refwrong_any A A2 c c2 ns ps hg hp Z4.out w1 E1.hN (Nodes.lt HP0.out hb1)).mono ?_; rintro e w2 ⟨B, d, rfl, hI, hb2⟩; have E2 := E1.next hb2)))
    go_ret2
    exact ⟨B, d, rfl, hI, E2.hb⟩
  · have hL' : L = [] := by rw [← hL]; exact if_neg (by rw [hE]; exact hne)
    subst hL'
    clear hL hE hne
    go_enter Try.func40, Try.ntmps40
    go_wp2_with (go_at_call 75; go_must (refine (refPaid_is A A2 c c2 ns ps true hn hp _ EH.out.hN HP0.out e HE.out).mono ?_; rintro e w1 ⟨rfl, hb1⟩; have E1 := EH.out.next hb1))
    go_ret2
    exact ⟨none, 0, rfl, .inl rfl, E1.hb⟩
theorem wrong_all (A A2 : Option Addr) (c c2 : Nat) (ns ps : List Node) (hn : ns.length ≤ 1000) (hp : ps.length ≤ 1000) (w : World) (hN : Nodes w w.heap.size A ns) (hP : Nodes w w.heap.size A2 ps) (L : List Int) (hL : wrongL ns ps = L) (e : Int) (hE : wrongE ns ps = e) :
    Calls Try.prog 39 #[.agg #[.slice A ns.length c], .slice A2 ps.length c2] w fun x w' => ∃ B d, x = .returned (.tuple #[.slice B L.length d, .int .i64 e]) ∧ IntsAt w' w'.heap.size B L ∧ Below w.heap.size w w' := by
  by_cases hz : wrongE ns ps = 0
  · have : L = wrongTo ns ps ps.length := by rw [← hL]; exact if_pos hz
    rw [this, ← hE, hz]
    exact wrong_ok A A2 c c2 ns ps hn hp w hN hP hz
  · have : L = [] := by rw [← hL]; exact if_neg hz
    rw [this]
    exact (wrong_no A A2 c c2 ns ps hn hp w hN hP e hE (by rw [← hE]; exact hz)).mono fun x w' ⟨h1, h2⟩ => ⟨none, 0, h1, .inl rfl, h2⟩
end Go.Proofs.Ytohoonbbjkefaaa
