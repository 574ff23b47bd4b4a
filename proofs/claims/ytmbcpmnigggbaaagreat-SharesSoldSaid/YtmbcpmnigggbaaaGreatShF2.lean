import Derived.Test.YtmbcpmnigggbaaaGreatShM7
import Derived.StillTailTactics
namespace Go.Proofs.YtmbcpmnigggbaaaGreat.Sh
open Go.RowKit

theorem within2_is (n lo hi : Int) (w : World) (b : Bool) (hb : inR n lo hi = b) : Calls Tryz.prog 50 #[.int .i64 n, .int .i64 lo, .int .i64 hi] w fun e w' => e = .returned (.bool b) ∧ w = w' := by
  rw [← hb]; exact refWithin2_any n lo hi w
set_option maxRecDepth 100000 in
set_option maxHeartbeats 4000000 in
theorem refCheck_any (A : Option Addr) (c : Nat) (ns : List Node) (hn : ns.length ≤ 1000) (w : World) (hN : Nodes w w.heap.size A ns) : Calls Tryz.prog 27 #[.agg #[.slice A ns.length c]] w fun e w' => e = .returned (.int .i64 (ckE ns)) ∧ Below w.heap.size w w' := by
  have bC := Boxed.new w 24 (.slice A ns.length c)
  by_cases hl : inR ns.length 1 8 = true
  · have HL := Lib.hid hl
    have HN := Lib.hid hN
    clear hl hN
    go_enter Tryz.func27, Tryz.ntmps27
    go_wp2_with (go_at_call 50; refine (within2_is _ _ _ _ _ HL.out).mono ?_; rintro e w' ⟨rfl, rfl⟩)
    go_loopw [3, 4] (fun i _ wr => ∃ k : Nat, k ≤ ns.length ∧ i = .int .i64 k ∧ (∀ j x, j < k → ns[j]? = some x → nodeOK j x = true) ∧ Below (w.heap.size + 1) (w.alloc (.cells #[.slice A ns.length c] 24)) wr) (fun i _ _ => ns.length - (intOf i).toNat)
    case atStart => exact ⟨0, Nat.zero_le _, rfl, fun j x hj => by omega, Below.refl _ _⟩
    case round =>
      obtain ⟨k, hk, rfl, hok, hb⟩ := hrel
      have hwr : w.heap.size + 1 ≤ wr.heap.size := by have := hb.size; simp at this; omega
      have m1 : wr.cell? ⟨w.heap.size, 0, none⟩ = some (.slice A ns.length c) := (hb.cell (p := ⟨w.heap.size, 0, none⟩) (by simp)).trans bC.cell
      have hB0 : Below w.heap.size w wr := ((Below.refl _ w).alloc (Nat.le_refl _) _).trans (hb.mono (by omega))
      by_cases hlt : k < ns.length
      · obtain ⟨x, hx⟩ : ∃ x, ns[k]? = some x := ⟨_, List.getElem?_eq_getElem hlt⟩
        obtain ⟨b, off, rfl, hbb, c1, c2, c3⟩ := HN.out.at_ hx
        have d1 := below_cell hB0 c1
        have d2 := below_cell hB0 c2
        have d3 := below_cell hB0 c3
        have HX := Lib.hid hx
        have HO := Lib.hid hok
        clear hx hok c1 c2 c3
        cases hup : upOK k x <;> cases hw : inR x.w 0 9 <;> cases hf : inR x.f 0 20
        all_goals
          have HUP := Lib.hid hup
          clear hup
          by_cases hk0 : k = 0
          · have hk1 : k ≤ 0 := by omega
            have hkb : ((k : Int) == 0) = true := by simpa using hk0
            have hub : (x.u == -1) = upOK k x := by rw [upOK, if_pos hk0, Bool.eq_iff_iff]; simp
            have hub2 : (x.u != -1) = !upOK k x := by rw [← hub]; rfl
            rw [HUP.out] at hub hub2
            dsimp only [Bool.not] at hub2
            clear hub
            clear hk0
            have hno : Hid (nodeOK k x = _) := Lib.hid (show nodeOK k x = _ from by rw [nodeOK, HUP.out, hw, hf])
            go_wp2_with (go_at_call 50; refine (refWithin2_any _ _ _ _).mono ?_; rintro e w' ⟨rfl, rfl⟩)
            first
              | (go_ret; exact ⟨by rw [ckE_no (validB_bad HX.out hno.out)]; rfl, hB0.alloc (by omega) _⟩)
              | (go_roundw
                 case rel => exact ⟨k + 1, by omega, by go_num, okStep HO.out HX.out hno.out, hb.alloc hwr _⟩
                 case measure => simp [intOf]; omega)
          · have hk1 : 0 < k := by omega
            have hkb : ((k : Int) == 0) = false := by simpa using hk0
            have hub : inR x.u 0 (k - 1) = upOK k x := by rw [upOK, if_neg hk0]
            rw [HUP.out] at hub
            clear hk0
            have hno : Hid (nodeOK k x = _) := Lib.hid (show nodeOK k x = _ from by rw [nodeOK, HUP.out, hw, hf])
            go_wp2_with (go_at_call 50; refine (refWithin2_any _ _ _ _).mono ?_; rintro e w' ⟨rfl, rfl⟩)
            first
              | (go_ret; exact ⟨by rw [ckE_no (validB_bad HX.out hno.out)]; rfl, hB0.alloc (by omega) _⟩)
              | (go_roundw
                 case rel => exact ⟨k + 1, by omega, by go_num, okStep HO.out HX.out hno.out, hb.alloc hwr _⟩
                 case measure => simp [intOf]; omega)
      · obtain rfl : k = ns.length := by omega
        go_wp2
        go_ret
        exact ⟨by rw [ckE_yes (validB_good HL.out (fun i x hx => hok i x (List.getElem?_eq_some_iff.1 hx).1 hx))]; rfl, hB0⟩
  · have hl' : inR ns.length 1 8 = false := by simpa using hl
    have hv : validB ns = false := by simp [validB, hl']
    have HV := Lib.hid hv
    have HL := Lib.hid hl'
    clear hv hl hl'
    go_enter Tryz.func27, Tryz.ntmps27
    go_wp2_with (go_at_call 50; refine (within2_is _ _ _ _ _ HL.out).mono ?_; rintro e w' ⟨rfl, rfl⟩)
    go_ret
    exact ⟨by rw [ckE_no HV.out]; rfl, (Below.refl _ _).alloc (Nat.le_refl _) _⟩
open Go.RowKit

theorem far_big (A : Option Addr) (n c : Nat) (w : World) (hn : n ≤ 9223372036854775807) (b : Bool) (hb : decide (40 < n) = b) : Calls Tryz.prog 4 #[.agg #[.slice A n c]] w fun e w' => e = .returned (.bool b) ∧ Below w.heap.size w w' := by
  go_enter Tryz.func4, Tryz.ntmps4
  go_wp2
  go_ret
  exact ⟨by rw [← hb]; simp; omega, (Below.refl _ w).alloc (Nat.le_refl _) _⟩
open Go.RowKit

/-- The law's own memory: the custom's box; the custom; whatever lay there before. -/
structure Env (w : World) (A : Option Addr) (c : Nat) (ns : List Node) (W : World) : Prop where
  bC : Boxed W w.heap.size 24 (.slice A ns.length c)
  hN : Nodes W W.heap.size A ns
  hb : Below w.heap.size w W
theorem Env.next {w : World} {A : Option Addr} {c : Nat} {ns : List Node} {W W' : World} (h : Env w A c ns W) (hb : Below W.heap.size W W') : Env w A c ns W' :=
  ⟨boxed_ext hb h.bC, Nodes.lt h.hN hb, hb0to h.hb hb⟩
theorem Env.new {w : World} {A : Option Addr} {ns : List Node} (c : Nat) (hN : Nodes w w.heap.size A ns) : Env w A c ns (w.alloc (.cells #[.slice A ns.length c] 24)) :=
  ⟨Boxed.new _ _ _, Nodes.alloc hN _, (Below.refl _ w).alloc (Nat.le_refl _) _⟩
theorem Env.alloc {w : World} {A : Option Addr} {c : Nat} {ns : List Node} {W : World} (h : Env w A c ns W) (o : Obj) : Env w A c ns (W.alloc o) := h.next ((Below.refl _ W).alloc (Nat.le_refl _) o)
end Go.Proofs.YtmbcpmnigggbaaaGreat.Sh
namespace Go.Proofs.YtmbcpmnigggbaaaGreat.Sh
open Go.RowKit

/-! The specification's functions. -/
def kidsI (ns : List Node) (k j : Nat) : List Int := ((List.range j).filter (isKid ns k)).map (fun i : Nat => (i : Int))
theorem kidsI_all (ns : List Node) (k : Nat) : kidsI ns k ns.length = (kidsN ns k).map (fun i : Nat => (i : Int)) := rfl
theorem kidsI_len (ns : List Node) (k j : Nat) : (kidsI ns k j).length ≤ j := by
  have := List.length_filter_le (isKid ns k) (List.range j)
  simp only [kidsI, List.length_map]
  simp at this
  omega
theorem kidsI_yes {ns : List Node} {k j : Nat} (h : isKid ns k j = true) : kidsI ns k (j + 1) = kidsI ns k j ++ [(j : Int)] := by
  simp [kidsI, List.range_succ, h]
theorem kidsI_no {ns : List Node} {k j : Nat} (h : isKid ns k j = false) : kidsI ns k (j + 1) = kidsI ns k j := by
  simp [kidsI, List.range_succ, h]
theorem kidsI_one (ns : List Node) (k : Nat) : kidsI ns k 1 = [] := by
  have : isKid ns k 0 = false := by simp [isKid]
  rw [show 1 = 0 + 1 from rfl, kidsI_no this]
  rfl

set_option maxRecDepth 100000 in
set_option maxHeartbeats 4000000 in
theorem below_any (A : Option Addr) (c : Nat) (ns : List Node) (m : Nat) (hn : ns.length ≤ 1000) (h1 : 1 ≤ ns.length) (w : World) (hN : Nodes w w.heap.size A ns) :
    Calls Tryz.prog 79 #[.agg #[.slice A ns.length c], .int .i64 m] w fun e w' => ∃ B d, e = .returned (.slice B (kidsN ns m).length d) ∧ IntsAt w' w'.heap.size B ((kidsN ns m).map (fun i : Nat => (i : Int))) ∧ Below w.heap.size w w' := by
  have E0 := Env.new c hN
  have EH := Lib.hid E0
  clear hN E0
  go_enter Tryz.func79, Tryz.ntmps79
  go_wp2
  go_loopw [5, 6] (fun v i wr => ∃ k : Nat, 1 ≤ k ∧ k ≤ ns.length ∧ i = .int .i64 k ∧ Hid (Ints wr (w.heap.size + 1) v (kidsI ns m k)) ∧ Below (w.heap.size + 1) (w.alloc (.cells #[.slice A ns.length c] 24)) wr)
    (fun _ i _ => ns.length - (intOf i).toNat)
  case atStart => exact ⟨1, Nat.le_refl _, h1, rfl, Lib.hid (by rw [kidsI_one]; exact ints_nil _ _), Below.refl _ _⟩
  case round =>
    obtain ⟨k, hk1, hk, rfl, HV, hb⟩ := hrel
    have hsz : w.heap.size + 1 ≤ wr.heap.size := by have := hb.size; simp at this; omega
    have E1 : Env w A c ns wr := EH.out.next (hb.mono (by simp))
    have q0 := E1.bC.cell
    by_cases hlt : k < ns.length
    · have hx := GoodC.at_ hlt
      obtain ⟨b, off, rfl, _, d1, _, _⟩ := E1.hN.at_ hx
      clear hx
      cases hkid : isKid ns m k
      · have hu : ((nodeAt ns k).u == (m : Int)) = false := by
          rw [beq_eq_false_iff_ne]
          intro e
          simp [isKid, e] at hkid
          omega
        have HK := Lib.hid (kidsI_no hkid)
        clear hkid
        go_wp2
        go_roundw
        case rel => exact ⟨k + 1, by omega, by omega, by go_num, by rw [HK.out]; exact HV, hb⟩
        case measure => simp [intOf]; omega
      · have hu : ((nodeAt ns k).u == (m : Int)) = true := by
          simp only [isKid, Bool.and_eq_true, decide_eq_true_eq] at hkid
          simpa using hkid.2
        have HK := Lib.hid (kidsI_yes hkid)
        clear hkid
        go_wp2_with (at_builtin; go_must (refine wpl_app rfl (.tmp 22) (.tmp 24) rfl (w.heap.size + 1) (w.heap.size + 1) _ (kidsI ns m k) k rfl (Ints.below_ HV.out ((Below.refl _ wr).alloc (Nat.le_refl _) _) (Nat.le_refl _)) ⟨wr.heap.size, 0, none⟩ 1 rfl (Boxed.cell (Boxed.new wr 3 (.int .i64 k))) (by have := kidsI_len ns m k; omega) (by simp; omega) (Nat.le_refl _) ?_; intro v' w4 hown4 hb7))
        go_roundw
        case rel => exact ⟨k + 1, by omega, by omega, by go_num, Lib.hid (by rw [HK.out]; exact hown4), hb.trans (((Below.refl _ wr).alloc hsz _).trans hb7)⟩
        case measure => simp [intOf]; omega
    · obtain rfl : k = ns.length := by omega
      obtain ⟨A3, c3, rfl, hA3, hI3⟩ := Ints.lay HV.out
      have HI3 := Lib.hid hI3
      clear hA3 hI3
      go_wp2
      go_ret
      exact ⟨A3, c3, by simp [kidsI_all], HI3.out, E1.hb⟩

def wsumTo (ns : List Node) (l : List Nat) : Int := lSum (l.map (nodeAt ns))
theorem wsumTo_snoc (ns : List Node) (l : List Nat) (x : Nat) : wsumTo ns (l ++ [x]) = wsumTo ns l + (nodeAt ns x).w := by simp [wsumTo, lSum]

set_option maxRecDepth 100000 in
set_option maxHeartbeats 4000000 in
theorem refSum_any (A : Option Addr) (c : Nat) (ns : List Node) (m : Nat) (hg : GoodC ns) (w : World) (hN : Nodes w w.heap.size A ns) :
    Calls Tryz.prog 80 #[.agg #[.slice A ns.length c], .int .i64 m] w fun e w' => e = .returned (.int .i64 (wsum ns m)) ∧ Below w.heap.size w w' := by
  have E0 := Env.new c hN
  have hl8 := hg.l8
  have HB := Lib.hid (below_any A c ns m (by omega) hg.l1 _ E0.hN)
  have EH := Lib.hid E0
  have hkl := kidsN_len hg m
  clear hN E0
  go_enter Tryz.func80, Tryz.ntmps80
  go_wp2_with (go_at_call 79; go_must (refine HB.out.mono ?_; rintro e w1 ⟨B, d, rfl, hI, hb1⟩))
  have E1 := Lib.hid (EH.out.next hb1)
  have HI := Lib.hid hI
  clear hI
  go_loopw [5, 7] (fun v i wr => ∃ k : Nat, k ≤ (kidsN ns m).length ∧ i = .int .i64 k ∧ v = .int .i64 (wsumTo ns ((kidsN ns m).take k)) ∧ Below w1.heap.size w1 wr)
    (fun _ i _ => (kidsN ns m).length - (intOf i).toNat)
  case atStart => exact ⟨0, Nat.zero_le _, rfl, rfl, Below.refl _ _⟩
  case round =>
    obtain ⟨k, hk, rfl, rfl, hb⟩ := hrel
    by_cases hlt : k < (kidsN ns m).length
    · obtain ⟨x, hx⟩ : ∃ x, (kidsN ns m)[k]? = some x := ⟨_, List.getElem?_eq_getElem hlt⟩
      have hxm : x ∈ kidsN ns m := List.mem_of_getElem? hx
      have hxl := (mem_kids.1 hxm).1
      have E2 : Env w A c ns wr := E1.out.next hb
      have q0 := extB_cell E2.bC.cell
      obtain ⟨b, off, rfl, _, _, d2, _⟩ := E2.hN.at_ (GoodC.at_ hxl)
      obtain ⟨b2, o2, rfl, _, e2⟩ := IntsAt.at_ (ilt HI.out hb) (k := k) (x := (x : Int)) (by rw [List.getElem?_map, hx]; rfl)
      have f1 := extB_cell d2
      have f2 := extB_cell e2
      have hs1 := lSum_bd (((kidsN ns m).take k).map (nodeAt ns)) (fun y hy => by
        obtain ⟨i, hi, rfl⟩ := List.mem_map.1 hy
        exact hg.ws i _ (GoodC.at_ (mem_kids.1 (List.mem_of_mem_take hi)).1))
      have hsb : 0 ≤ wsumTo ns ((kidsN ns m).take k) ∧ wsumTo ns ((kidsN ns m).take k) ≤ 63 := by
        unfold wsumTo
        simp only [List.length_map, List.length_take] at hs1
        omega
      have hwx := hg.ws x _ (GoodC.at_ hxl)
      have HS := Lib.hid (show wsumTo ns ((kidsN ns m).take (k + 1)) = wsumTo ns ((kidsN ns m).take k) + (nodeAt ns x).w from by
        have : (kidsN ns m).take (k + 1) = (kidsN ns m).take k ++ [x] := by rw [List.take_add_one, hx]; rfl
        rw [this, wsumTo_snoc])
      clear hx hxm d2 e2 hs1
      go_wp2
      refine wp_region_ext (by kernel_rfl) (by kernel_rfl) ?_
      repeat (go_big_quiet_step (fail))
      refine wpQuiet_nil ?_
      rintro _ ⟨x1, rfl⟩
      have hb1 := hb.trans ((extB_below wr x1).mono hb.size)
      go_wp2
      go_roundw
      case rel => exact ⟨k + 1, by omega, by go_num, by rw [HS.out], hb1⟩
      case measure => simp [intOf]; omega
    · obtain rfl : k = (kidsN ns m).length := by omega
      have HS := Lib.hid (show wsum ns m = wsumTo ns ((kidsN ns m).take (kidsN ns m).length) from by rw [List.take_length]; rfl)
      go_wp2
      go_ret
      exact ⟨by rw [HS.out]; rfl, (E1.out.next hb).hb⟩
end Go.Proofs.YtmbcpmnigggbaaaGreat.Sh
namespace Go.Proofs.YtmbcpmnigggbaaaGreat.Sh
open Go.RowKit

theorem below_is (A : Option Addr) (c : Nat) (ns : List Node) (m : Nat) (u : Int) (hu : (m : Int) = u) (hn : ns.length ≤ 1000) (h1 : 1 ≤ ns.length) (w : World) (hN : Nodes w w.heap.size A ns) :
    Calls Tryz.prog 79 #[.agg #[.slice A ns.length c], .int .i64 u] w fun e w' => ∃ B d, e = .returned (.slice B (kidsN ns m).length d) ∧ IntsAt w' w'.heap.size B ((kidsN ns m).map (fun i : Nat => (i : Int))) ∧ Below w.heap.size w w' := by
  subst hu
  exact below_any A c ns m hn h1 w hN

/-- The world in which a list of the nodes below stands. -/
structure EnvL (w : World) (A : Option Addr) (c : Nat) (ns : List Node) (B : Option Addr) (l : List Nat) (W : World) : Prop where
  e : Env w A c ns W
  hI : IntsAt W W.heap.size B (l.map (fun i : Nat => (i : Int)))
theorem EnvL.next {w : World} {A : Option Addr} {c : Nat} {ns : List Node} {B : Option Addr} {l : List Nat} {W W' : World} (h : EnvL w A c ns B l W) (hb : Below W.heap.size W W') : EnvL w A c ns B l W' :=
  ⟨h.e.next hb, ilt h.hI hb⟩

end Go.Proofs.YtmbcpmnigggbaaaGreat.Sh
