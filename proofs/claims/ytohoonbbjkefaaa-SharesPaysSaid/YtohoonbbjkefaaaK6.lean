import Derived.Test.YtohoonbbjkefaaaK5
namespace Go.Proofs.Ytohoonbbjkefaaa
open Go.RowKit

def keyT (ns : List Node) (m : Nat) (l : List Int) (p : Nat) (k : Nat) : List Int := askKeys ns m (l.take k) p
theorem keyT_succ {ns : List Node} {m : Nat} {l : List Int} {p k : Nat} {x : Int} (hx : l[k]? = some x) : keyT ns m l p (k + 1) = keyT ns m l p k ++ [gotS (setW ns m x) p m] := by
  unfold keyT askKeys
  rw [List.take_add_one, hx]
  simp
theorem keyT_len (ns : List Node) (m : Nat) (l : List Int) (p k : Nat) : (keyT ns m l p k).length ≤ l.length := by
  unfold keyT askKeys
  rw [List.length_map, List.length_take]
  omega
theorem keyT_all (ns : List Node) (m : Nat) (l : List Int) (p : Nat) : keyT ns m l p l.length = askKeys ns m l p := by unfold keyT; rw [List.take_length]
theorem keyT_no {ns : List Node} {m : Nat} {l : List Int} {p k : Nat} {x : Int} (hx : l[k]? = some x) (h : gotS (setW ns m x) p m ∈ keyT ns m l p k) : decide (askKeys ns m l p).Nodup = false := by
  refine decide_eq_false (fun hn => ?_)
  have hs : (keyT ns m l p (k + 1)).Sublist (askKeys ns m l p) := by
    unfold keyT askKeys
    exact (List.take_sublist _ _).map _
  have h2 := hn.sublist hs
  rw [keyT_succ hx, List.nodup_append] at h2
  exact h2.2.2 _ h _ (by simp) rfl
theorem keyT_nodup {ns : List Node} {m : Nat} {l : List Int} {p k : Nat} {x : Int} (hx : l[k]? = some x) (hn : (keyT ns m l p k).Nodup) (h : ¬ gotS (setW ns m x) p m ∈ keyT ns m l p k) : (keyT ns m l p (k + 1)).Nodup := by
  rw [keyT_succ hx, List.nodup_append]
  refine ⟨hn, by simp, fun a ha b hb e => ?_⟩
  rw [List.mem_singleton] at hb
  subst hb
  subst e
  exact h ha
theorem getsOfW {A : Option Addr} {c : Nat} {ns : List Node} {m : Nat} {x : Int} {n : Nat} (hg : GoodC ns) (hm : m < ns.length) (hn : n ≤ 400) (hx : 0 ≤ x ∧ x ≤ 9) (v : Int) (hv : gotS (setW ns m x) n m = v) (w : World) (hN : Nodes w w.heap.size A (setW ns m x)) :
    Calls Try.prog 67 #[.agg #[.slice A ns.length c], .int .i64 m, .int .i64 n] w fun e w' => e = .returned (.int .i64 v) ∧ Below w.heap.size w w' := by
  have := getsOf_any A c (setW ns m x) n (setW_good hg m hx) (by omega) (by omega) m w (by rw [setW_len]; exact hm) hN
  rw [setW_len, hv] at this
  exact this

set_option maxRecDepth 100000 in
set_option maxHeartbeats 4000000 in
theorem tells_any (A Al : Option Addr) (c cl : Nat) (ns : List Node) (l : List Int) (m p : Nat) (hA : A = none → c = 0 ∧ ns = []) (hg : GoodC ns) (hm : m < ns.length) (hl : l.length ≤ 10) (hl9 : ∀ x ∈ l, 0 ≤ x ∧ x ≤ 9) (hp : p ≤ 400) (w : World) (hN : Nodes w w.heap.size A ns) (hI : IntsAt w w.heap.size Al l) :
    Calls Try.prog 82 #[.agg #[.slice A ns.length c], .int .i64 m, .slice Al l.length cl, .int .i64 p] w fun e w' => e = .returned (.bool (decide (askKeys ns m l p).Nodup)) ∧ Below w.heap.size w w' := by
  have h8 := hg.l8
  obtain ⟨W0, hW0⟩ : ∃ W0, w.alloc (.cells #[.slice A ns.length c] 24) = W0 := ⟨_, rfl⟩
  have E0 : Env w A c ns W0 := by rw [← hW0]; exact Env.new c hN
  have HI0 := Lib.hid (show IntsAt W0 W0.heap.size Al l by rw [← hW0]; exact ilt hI ((Below.refl _ w).alloc (Nat.le_refl _) _))
  have EH := Lib.hid E0
  have HA := Lib.hid hA
  have HL9 := Lib.hid hl9
  clear E0 hN hI hA hl9
  go_enter Try.func82, Try.ntmps82
  go_wp2
  go_loopw [9, 10] (fun v i wr => ∃ k : Nat, k ≤ l.length ∧ i = .int .i64 k ∧ Hid (Ints wr W0.heap.size v (keyT ns m l p k)) ∧ Hid ((keyT ns m l p k).Nodup) ∧ Below W0.heap.size W0 wr) (fun _ i _ => l.length - (intOf i).toNat)
  case atStart => exact ⟨0, Nat.zero_le _, rfl, Lib.hid (ints_nil _ _), Lib.hid (by simp [keyT, askKeys]), Below.refl _ _⟩
  case round =>
    obtain ⟨k, hk, rfl, HV, HD, hb⟩ := hrel
    obtain ⟨A3, c3, rfl, _, hI3⟩ := Ints.lay HV.out
    have HI3 := Lib.hid hI3
    clear hI3
    have Er := Lib.hid (EH.out.next hb)
    have hlen : (keyT ns m l p k).length ≤ 1000 := Nat.le_trans (keyT_len ns m l p k) (by omega)
    by_cases hlt : k < l.length
    · obtain ⟨x, hx⟩ : ∃ x, l[k]? = some x := ⟨_, List.getElem?_eq_getElem hlt⟩
      obtain ⟨b, off, rfl, hbb, c1⟩ := (ilt HI0.out hb).at_ hx
      have hx9 := HL9.out x (List.mem_of_getElem? hx)
      obtain ⟨v, hv⟩ : ∃ v, gotS (setW ns m x) p m = v := ⟨_, rfl⟩
      have HX := Lib.hid hx
      have HVV := Lib.hid hv
      have mc := Er.out.bC.cell
      clear hx hv
      obtain ⟨q, hq⟩ : ∃ q, decide (v ∈ keyT ns m l p k) = q := ⟨_, rfl⟩
      have HQ := Lib.hid hq
      clear hq
      go_wp2
      go_region_held3 (fun w' => w'.cell? ⟨w.heap.size, 0, none⟩ = some (.slice A ns.length c) ∧ w'.cell? ⟨b, off + k, none⟩ = some (.int .i64 x)) (first | go_keep)
        (first
          | (go_at_call 80; refine (weighing_any A c ns m x HA.out hm (by omega) _ (Nodes.lt Er.out.hN (drew_below wr))).mono ?_; rintro e w2 ⟨g, of2, cap, rfl, hN2, hb2⟩; have hbw : Below wr.heap.size wr w2 := hb0to (drew_below wr) hb2; have mc2 := below_cell hbw mc; have c12 := below_cell hbw c1)
          | (go_at_call 67; refine (getsOfW hg hm hp hx9 v HVV.out _ hN2).mono ?_; rintro e w3 ⟨rfl, hb3⟩; have hbr := hb0to hbw hb3; have mc3 := below_cell hbr mc; have c13 := below_cell hbr c1))
      clear mc2 c12 mc3 c13 mc c1 hN2
      cases q
      · go_wp2_with (first
          | (go_at_call 58; go_must (refine (in_is A3 c3 (keyT ns m l p k) v hlen w3 (ilt HI3.out hbr) _ HQ.out).mono ?_; rintro e w' ⟨rfl, rfl⟩))
          | (at_builtin; go_must (refine wpl_app rfl (.tmp 31) (.tmp 33) rfl W0.heap.size W0.heap.size _ (keyT ns m l p k) v rfl (Ints.below_ HV.out (hbr.alloc hbr.size _) (Nat.le_refl _)) ⟨w3.heap.size, 0, none⟩ 1 rfl (Boxed.cell (Boxed.new w3 3 (.int .i64 v))) hlen (by have := hb.size; have := hbr.size; simp; omega) (Nat.le_refl _) ?_; intro v' w4 hown4 hb7)))
        go_roundw
        case rel => exact ⟨k + 1, by omega, by go_num, Lib.hid (by rw [keyT_succ HX.out, HVV.out]; exact hown4), Lib.hid (keyT_nodup HX.out HD.out (by rw [HVV.out]; exact of_decide_eq_false HQ.out)), (hb.trans ((hbr.alloc hbr.size _).mono hb.size)).trans hb7⟩
        case measure => simp [intOf]; omega
      · go_wp2_with (go_at_call 58; go_must (refine (in_is A3 c3 (keyT ns m l p k) v hlen w3 (ilt HI3.out hbr) _ HQ.out).mono ?_; rintro e w' ⟨rfl, rfl⟩))
        go_ret
        exact ⟨by rw [keyT_no HX.out (by rw [HVV.out]; exact of_decide_eq_true HQ.out)]; rfl, hb0to Er.out.hb hbr⟩
    · obtain rfl : k = l.length := by omega
      have hnd : decide (askKeys ns m l p).Nodup = true := decide_eq_true (by rw [← keyT_all]; exact HD.out)
      have HND := Lib.hid hnd
      clear hnd
      go_wp2
      go_ret
      exact ⟨by rw [HND.out]; rfl, Er.out.hb⟩
theorem tells_is (A Al : Option Addr) (c cl : Nat) (ns : List Node) (l : List Int) (m p : Nat) (hA : A = none → c = 0 ∧ ns = []) (hg : GoodC ns) (hm : m < ns.length) (hl : l.length ≤ 10) (hl9 : ∀ x ∈ l, 0 ≤ x ∧ x ≤ 9) (hp : p ≤ 400) (w : World) (hN : Nodes w w.heap.size A ns) (hI : IntsAt w w.heap.size Al l) (b : Bool) (hb : decide (askKeys ns m l p).Nodup = b) :
    Calls Try.prog 82 #[.agg #[.slice A ns.length c], .int .i64 m, .slice Al l.length cl, .int .i64 p] w fun e w' => e = .returned (.bool b) ∧ Below w.heap.size w w' := by
  rw [← hb]; exact tells_any A Al c cl ns l m p hA hg hm hl hl9 hp w hN hI

theorem askS_first {ns ps : List Node} {node : Int} (h : wtsR ns node ps = 0) : askS ns node ps = firstE (fun n => decide (askKeys ns node.toNat (wtsV ns node ps) n).Nodup) 401 := by
  unfold askS
  rw [if_neg (by rw [h]; decide)]
  split
  · rename_i h1
    obtain ⟨x, hx⟩ := List.length_eq_one_iff.1 h1
    rw [hx]
    have := firstE_hit (p := fun n => decide (askKeys ns node.toNat [x] n).Nodup) (n := 401) (k := 0) (by omega) (fun j hj => by omega) (by simp [askKeys])
    rw [this]
    rfl
  · rfl

set_option maxRecDepth 100000 in
set_option maxHeartbeats 4000000 in
theorem refAsk_ok (A A2 : Option Addr) (c c2 : Nat) (ns ps : List Node) (node : Int) (hA : A = none → c = 0 ∧ ns = []) (hn : ns.length ≤ 1000) (hp : ps.length ≤ 1000) (w : World) (hN : Nodes w w.heap.size A ns) (hP : Nodes w w.heap.size A2 ps) :
    Calls Try.prog 44 #[.agg #[.slice A ns.length c], .int .i64 node, .slice A2 ps.length c2] w fun e w' => e = .returned (.tuple #[.int .i64 (askS ns node ps).1, .int .i64 (askS ns node ps).2]) ∧ Below w.heap.size w w' := by
  obtain ⟨W0, hW0⟩ : ∃ W0, w.alloc (.cells #[.slice A ns.length c] 24) = W0 := ⟨_, rfl⟩
  have E0 : Env w A c ns W0 := by rw [← hW0]; exact Env.new c hN
  have HP0 := Lib.hid (show Nodes W0 W0.heap.size A2 ps by rw [← hW0]; exact Nodes.alloc hP _)
  have EH := Lib.hid E0
  have q0 := E0.bC.cell
  have HA := Lib.hid hA
  clear E0 hN hP hA
  have hW := refWeights_ok A A2 c c2 ns ps node HA.out hn hp W0 EH.out.hN HP0.out
  obtain ⟨L, hL⟩ : ∃ L, wtsV ns node ps = L := ⟨_, rfl⟩
  obtain ⟨r, hr⟩ : ∃ r, wtsR ns node ps = r := ⟨_, rfl⟩
  rw [hL, hr] at hW
  have HW := Lib.hid hW
  clear hW
  rcases err_cases r with rfl | ⟨hne, hneb⟩
  · have hs := askS_first hr
    rw [hL] at hs
    obtain ⟨z1, z2⟩ := wtsR_zero hr
    obtain ⟨hg, h0, h1, _, _⟩ := wtsE_zero z1
    have hl9 : ∀ x ∈ L, 0 ≤ x ∧ x ≤ 9 := fun x hx => by
      rw [← hL, z2] at hx
      have := wtsTo_bd ns node.toNat ps 10 x hx
      omega
    have hl10 : L.length ≤ 10 := by rw [← hL, z2]; exact wtsTo_len ns node.toNat ps 10
    obtain ⟨m, rfl⟩ : ∃ m : Nat, node = m := ⟨node.toNat, by omega⟩
    have hm : m < ns.length := by omega
    have HS := Lib.hid (show askS ns m ps = firstE (fun n => decide (askKeys ns m L n).Nodup) 401 from hs)
    have HL9 := Lib.hid hl9
    clear hs hL hr z1 z2 hl9
    go_enter Try.func44, Try.ntmps44
    go_wp2_with (go_at_call 42; go_must (refine HW.out.mono ?_; rintro e w1 ⟨Ao, co, rfl, hI, hb1⟩))
    have E1 := Lib.hid (EH.out.next hb1)
    have I1 := Lib.hid hI
    clear hI q0
    go_loopw [10] (fun i wr => ∃ k : Nat, k ≤ 401 ∧ i = .int .i64 k ∧ Hid (∀ j, j < k → decide (askKeys ns m L j).Nodup = false) ∧ Below w1.heap.size w1 wr) (fun i _ => 401 - (intOf i).toNat)
    case atStart => exact ⟨0, by omega, rfl, Lib.hid (fun j hj => by omega), Below.refl _ _⟩
    case round =>
      obtain ⟨k, hk, rfl, HK, hb⟩ := hrel
      have Er := Lib.hid (E1.out.next hb)
      have Ir := Lib.hid (ilt I1.out hb)
      have q0 := Er.out.bC.cell
      by_cases hlt : k < 401
      · cases hq : decide (askKeys ns m L k).Nodup
        all_goals
          have HQ := Lib.hid hq
          clear hq
          go_wp2_with (go_at_call 82; go_must (refine (tells_is A Ao c co ns L m k HA.out hg hm hl10 HL9.out (by omega) wr Er.out.hN Ir.out _ HQ.out).mono ?_; rintro e w2 ⟨rfl, hb2⟩))
        · go_roundw
          case rel => exact ⟨k + 1, by omega, by go_num, Lib.hid (fun j hj => by
            by_cases e : j = k
            · rw [e]; exact HQ.out
            · exact HK.out j (by omega)), hb0to hb hb2⟩
          case measure => simp [intOf]; omega
        · go_ret2
          exact ⟨by rw [HS.out, firstE_hit (p := fun n => decide (askKeys ns m L n).Nodup) hlt HK.out HQ.out]; rfl, hb0to Er.out.hb hb2⟩
      · obtain rfl : k = 401 := by omega
        go_wp2
        go_ret2
        exact ⟨by rw [HS.out, firstE_none (p := fun n => decide (askKeys ns m L n).Nodup) HK.out]; rfl, Er.out.hb⟩
  · have hs : askS ns node ps = (0, r) := by unfold askS; rw [hr]; exact if_pos hne
    have HS := Lib.hid hs
    clear hs hL hr hne
    go_enter Try.func44, Try.ntmps44
    go_wp2_with (go_at_call 42; go_must (refine HW.out.mono ?_; rintro e w1 ⟨Ao, co, rfl, hI, hb1⟩; clear hI))
    go_ret2
    exact ⟨by rw [HS.out]; rfl, (EH.out.next hb1).hb⟩
end Go.Proofs.Ytohoonbbjkefaaa
