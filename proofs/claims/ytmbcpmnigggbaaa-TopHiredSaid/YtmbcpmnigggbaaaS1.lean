import Derived.Test.YtmbcpmnigggbaaaShM7
import Derived.StillTailTactics
import Derived.Deep.RegionHeld3
import Derived.Deep.RegionWith
import Derived.Deep.OwnRows
import Derived.Deep.DeepMust
import Derived.Test.YtmbcpmnigggbaaaO1
namespace Go.Proofs.Ytmbcpmnigggbaaa.Sh
open Go.RowKit

theorem within2_is (n lo hi : Int) (w : World) (b : Bool) (hb : inR n lo hi = b) : Calls Try.prog 106 #[.int .i64 n, .int .i64 lo, .int .i64 hi] w fun e w' => e = .returned (.bool b) ∧ w = w' := by
  rw [← hb]; exact refWithin2_any n lo hi w
set_option maxRecDepth 100000 in
set_option maxHeartbeats 4000000 in
theorem refCheck_any (A : Option Addr) (c : Nat) (ns : List Node) (hn : ns.length ≤ 1000) (w : World) (hN : Nodes w w.heap.size A ns) : Calls Try.prog 46 #[.agg #[.slice A ns.length c]] w fun e w' => e = .returned (.int .i64 (ckE ns)) ∧ Below w.heap.size w w' := by
  have bC := Boxed.new w 76 (.slice A ns.length c)
  by_cases hl : inR ns.length 1 8 = true
  · have HL := Lib.hid hl
    have HN := Lib.hid hN
    clear hl hN
    go_enter Try.func46, Try.ntmps46
    go_wp2_with (go_at_call 106; refine (within2_is _ _ _ _ _ HL.out).mono ?_; rintro e w' ⟨rfl, rfl⟩)
    go_loopw [3, 4] (fun i _ wr => ∃ k : Nat, k ≤ ns.length ∧ i = .int .i64 k ∧ (∀ j x, j < k → ns[j]? = some x → nodeOK j x = true) ∧ Below (w.heap.size + 1) (w.alloc (.cells #[.slice A ns.length c] 76)) wr) (fun i _ _ => ns.length - (intOf i).toNat)
    case atStart => exact ⟨0, Nat.zero_le _, rfl, fun j x hj => by omega, Below.refl _ _⟩
    case round =>
      obtain ⟨k, hk, rfl, hok, hb⟩ := hrel
      have hwr : w.heap.size + 1 ≤ wr.heap.size := by have := hb.size; simp at this; omega
      have m1 : wr.cell? ⟨w.heap.size, 0, none⟩ = some (.slice A ns.length c) := (hb.cell (p := ⟨w.heap.size, 0, none⟩) (by simp)).trans bC.cell
      have hB0 : Below w.heap.size w wr := ((Below.refl _ w).alloc (Nat.le_refl _) _).trans (hb.mono (by omega))
      by_cases hlt : k < ns.length
      · obtain ⟨x, hx⟩ : ∃ x, ns[k]? = some x := ⟨_, List.getElem?_eq_getElem hlt⟩
        obtain ⟨b, off, rfl, hbb, c1, c2, c3⟩ := HN.out.at_ hx
        have d1 := below_cell hB0 c1
        have d2 := below_cell hB0 c2
        have d3 := below_cell hB0 c3
        have HX := Lib.hid hx
        have HO := Lib.hid hok
        clear hx hok c1 c2 c3
        cases hup : upOK k x <;> cases hw : inR x.w 0 9 <;> cases hf : inR x.f 0 20
        all_goals
          have HUP := Lib.hid hup
          clear hup
          by_cases hk0 : k = 0
          · have hk1 : k ≤ 0 := by omega
            have hkb : ((k : Int) == 0) = true := by simpa using hk0
            have hub : (x.u == -1) = upOK k x := by rw [upOK, if_pos hk0, Bool.eq_iff_iff]; simp
            have hub2 : (x.u != -1) = !upOK k x := by rw [← hub]; rfl
            rw [HUP.out] at hub hub2
            dsimp only [Bool.not] at hub2
            clear hub
            clear hk0
            have hno : Hid (nodeOK k x = _) := Lib.hid (show nodeOK k x = _ from by rw [nodeOK, HUP.out, hw, hf])
            go_wp2_with (go_at_call 106; refine (refWithin2_any _ _ _ _).mono ?_; rintro e w' ⟨rfl, rfl⟩)
            first
              | (go_ret; exact ⟨by rw [ckE_no (validB_bad HX.out hno.out)]; rfl, hB0.alloc (by omega) _⟩)
              | (go_roundw
                 case rel => exact ⟨k + 1, by omega, by go_num, okStep HO.out HX.out hno.out, hb.alloc hwr _⟩
                 case measure => simp [intOf]; omega)
          · have hk1 : 0 < k := by omega
            have hkb : ((k : Int) == 0) = false := by simpa using hk0
            have hub : inR x.u 0 (k - 1) = upOK k x := by rw [upOK, if_neg hk0]
            rw [HUP.out] at hub
            clear hk0
            have hno : Hid (nodeOK k x = _) := Lib.hid (show nodeOK k x = _ from by rw [nodeOK, HUP.out, hw, hf])
            go_wp2_with (go_at_call 106; refine (refWithin2_any _ _ _ _).mono ?_; rintro e w' ⟨rfl, rfl⟩)
            first
              | (go_ret; exact ⟨by rw [ckE_no (validB_bad HX.out hno.out)]; rfl, hB0.alloc (by omega) _⟩)
              | (go_roundw
                 case rel => exact ⟨k + 1, by omega, by go_num, okStep HO.out HX.out hno.out, hb.alloc hwr _⟩
                 case measure => simp [intOf]; omega)
      · obtain rfl : k = ns.length := by omega
        go_wp2
        go_ret
        exact ⟨by rw [ckE_yes (validB_good HL.out (fun i x hx => hok i x (List.getElem?_eq_some_iff.1 hx).1 hx))]; rfl, hB0⟩
  · have hl' : inR ns.length 1 8 = false := by simpa using hl
    have hv : validB ns = false := by simp [validB, hl']
    have HV := Lib.hid hv
    have HL := Lib.hid hl'
    clear hv hl hl'
    go_enter Try.func46, Try.ntmps46
    go_wp2_with (go_at_call 106; refine (within2_is _ _ _ _ _ HL.out).mono ?_; rintro e w' ⟨rfl, rfl⟩)
    go_ret
    exact ⟨by rw [ckE_no HV.out]; rfl, (Below.refl _ _).alloc (Nat.le_refl _) _⟩
open Go.RowKit

theorem far_big (A : Option Addr) (n c : Nat) (w : World) (hn : n ≤ 9223372036854775807) (b : Bool) (hb : decide (40 < n) = b) : Calls Try.prog 45 #[.agg #[.slice A n c]] w fun e w' => e = .returned (.bool b) ∧ Below w.heap.size w w' := by
  go_enter Try.func45, Try.ntmps45
  go_wp2
  go_ret
  exact ⟨by rw [← hb]; simp; omega, (Below.refl _ w).alloc (Nat.le_refl _) _⟩
theorem validB_len {ns : List Node} (h : validB ns = true) : ns.length ≤ 8 := by
  simp only [validB, Bool.and_eq_true, inR_true] at h
  omega
set_option maxRecDepth 100000 in
set_option maxHeartbeats 1000000 in
theorem ready_is (A : Option Addr) (c : Nat) (ns : List Node) (hn : ns.length ≤ 9223372036854775807) (w : World) (hN : Nodes w w.heap.size A ns) (v : Bool) (hv : validB ns = v) :
    Calls Try.prog 36 #[.agg #[.slice A ns.length c]] w fun e w' => e = .returned (.bool v) ∧ Below w.heap.size w w' := by
  have bC := Boxed.new w 76 (.slice A ns.length c)
  by_cases h40 : 40 < ns.length
  · have HF := Lib.hid (far_big A ns.length c (w.alloc (.cells #[.slice A ns.length c] 76)) hn true (by simpa using h40))
    have HV := Lib.hid (show v = false from by
      cases v with
      | false => rfl
      | true => have := validB_len hv; omega)
    clear hv
    go_enter Try.func36, Try.ntmps36
    go_wp2_with (go_at_call 45; go_must (refine HF.out.mono ?_; rintro e w1 ⟨rfl, hb1⟩))
    go_ret
    exact ⟨by rw [HV.out]; rfl, ((Below.refl _ w).alloc (Nat.le_refl _) _).trans (hb1.mono (by simp))⟩
  · have HF := Lib.hid (far_big A ns.length c (w.alloc (.cells #[.slice A ns.length c] 76)) hn false (by simpa using h40))
    have hN1 := Nodes.alloc hN (.cells #[.slice A ns.length c] 76)
    have HN1 := Lib.hid hN1
    clear hN hN1
    cases v
    · have hc := ckE_no hv
      have HC := Lib.hid hc
      clear hc hv
      go_enter Try.func36, Try.ntmps36
      go_wp2_with (first
        | (go_at_call 45; go_must (refine HF.out.mono ?_; rintro e w1 ⟨rfl, hb1⟩; have m1 := (boxed_ext hb1 bC).cell))
        | (go_at_call 46; go_must (refine (refCheck_any A c ns (by omega) w1 (Nodes.lt HN1.out hb1)).mono ?_; rintro e w2 ⟨rfl, hb2⟩; rw [HC.out])))
      go_ret
      exact ⟨rfl, ((Below.refl _ w).alloc (Nat.le_refl _) _).trans ((hb1.trans (hb2.mono hb1.size)).mono (by simp))⟩
    · have hc := ckE_yes hv
      have HC := Lib.hid hc
      clear hc hv
      go_enter Try.func36, Try.ntmps36
      go_wp2_with (first
        | (go_at_call 45; go_must (refine HF.out.mono ?_; rintro e w1 ⟨rfl, hb1⟩; have m1 := (boxed_ext hb1 bC).cell))
        | (go_at_call 46; go_must (refine (refCheck_any A c ns (by omega) w1 (Nodes.lt HN1.out hb1)).mono ?_; rintro e w2 ⟨rfl, hb2⟩; rw [HC.out])))
      go_ret
      exact ⟨rfl, ((Below.refl _ w).alloc (Nat.le_refl _) _).trans ((hb1.trans (hb2.mono hb1.size)).mono (by simp))⟩
theorem penceE_of {ns : List Node} (h : validB ns = true) {p : Int} (hp : 0 ≤ p ∧ p ≤ 400) : penceE ns p = 0 := by
  have hi : inR p 0 400 = true := inR_true.2 hp
  rw [penceE, hi, askE, h]
  simp

open Go.RowKit

/-- The law's own memory: the custom's box; the custom; whatever lay there before. -/
structure Env (w : World) (A : Option Addr) (c : Nat) (ns : List Node) (W : World) : Prop where
  bC : Boxed W w.heap.size 76 (.slice A ns.length c)
  hN : Nodes W W.heap.size A ns
  hb : Below w.heap.size w W
theorem Env.next {w : World} {A : Option Addr} {c : Nat} {ns : List Node} {W W' : World} (h : Env w A c ns W) (hb : Below W.heap.size W W') : Env w A c ns W' :=
  ⟨boxed_ext hb h.bC, Nodes.lt h.hN hb, hb0to h.hb hb⟩
theorem Env.new {w : World} {A : Option Addr} {ns : List Node} (c : Nat) (hN : Nodes w w.heap.size A ns) : Env w A c ns (w.alloc (.cells #[.slice A ns.length c] 76)) :=
  ⟨Boxed.new _ _ _, Nodes.alloc hN _, (Below.refl _ w).alloc (Nat.le_refl _) _⟩
theorem Env.alloc {w : World} {A : Option Addr} {c : Nat} {ns : List Node} {W : World} (h : Env w A c ns W) (o : Obj) : Env w A c ns (W.alloc o) := h.next ((Below.refl _ W).alloc (Nat.le_refl _) o)
theorem refIsNode_is (A : Option Addr) (n c : Nat) (k : Int) (w : World) (hn : n ≤ 1000) (b : Bool) (hb : inR k 0 (n - 1) = b) : Calls Try.prog 50 #[.agg #[.slice A n c], .int .i64 k] w fun e w' => e = .returned (.bool b) ∧ Below w.heap.size w w' := by
  rw [← hb]; exact refIsNode_any A n c k w hn
end Go.Proofs.Ytmbcpmnigggbaaa.Sh
namespace Go.Proofs.Ytmbcpmnigggbaaa.Sh
open Go.RowKit

/-! The specification's functions. -/
def kidsI (ns : List Node) (k j : Nat) : List Int := ((List.range j).filter (isKid ns k)).map (fun i : Nat => (i : Int))
theorem kidsI_all (ns : List Node) (k : Nat) : kidsI ns k ns.length = (kidsN ns k).map (fun i : Nat => (i : Int)) := rfl
theorem kidsI_len (ns : List Node) (k j : Nat) : (kidsI ns k j).length ≤ j := by
  have := List.length_filter_le (isKid ns k) (List.range j)
  simp only [kidsI, List.length_map]
  simp at this
  omega
theorem kidsI_yes {ns : List Node} {k j : Nat} (h : isKid ns k j = true) : kidsI ns k (j + 1) = kidsI ns k j ++ [(j : Int)] := by
  simp [kidsI, List.range_succ, h]
theorem kidsI_no {ns : List Node} {k j : Nat} (h : isKid ns k j = false) : kidsI ns k (j + 1) = kidsI ns k j := by
  simp [kidsI, List.range_succ, h]
theorem kidsI_one (ns : List Node) (k : Nat) : kidsI ns k 1 = [] := by
  have : isKid ns k 0 = false := by simp [isKid]
  rw [show 1 = 0 + 1 from rfl, kidsI_no this]
  rfl

set_option maxRecDepth 100000 in
set_option maxHeartbeats 4000000 in
theorem below_any (A : Option Addr) (c : Nat) (ns : List Node) (m : Nat) (hn : ns.length ≤ 1000) (h1 : 1 ≤ ns.length) (w : World) (hN : Nodes w w.heap.size A ns) :
    Calls Try.prog 111 #[.agg #[.slice A ns.length c], .int .i64 m] w fun e w' => ∃ B d, e = .returned (.slice B (kidsN ns m).length d) ∧ IntsAt w' w'.heap.size B ((kidsN ns m).map (fun i : Nat => (i : Int))) ∧ Below w.heap.size w w' := by
  have E0 := Env.new c hN
  have EH := Lib.hid E0
  clear hN E0
  go_enter Try.func111, Try.ntmps111
  go_wp2
  go_loopw [5, 6] (fun v i wr => ∃ k : Nat, 1 ≤ k ∧ k ≤ ns.length ∧ i = .int .i64 k ∧ Hid (Ints wr (w.heap.size + 1) v (kidsI ns m k)) ∧ Below (w.heap.size + 1) (w.alloc (.cells #[.slice A ns.length c] 76)) wr)
    (fun _ i _ => ns.length - (intOf i).toNat)
  case atStart => exact ⟨1, Nat.le_refl _, h1, rfl, Lib.hid (by rw [kidsI_one]; exact ints_nil _ _), Below.refl _ _⟩
  case round =>
    obtain ⟨k, hk1, hk, rfl, HV, hb⟩ := hrel
    have hsz : w.heap.size + 1 ≤ wr.heap.size := by have := hb.size; simp at this; omega
    have E1 : Env w A c ns wr := EH.out.next (hb.mono (by simp))
    have q0 := E1.bC.cell
    by_cases hlt : k < ns.length
    · have hx := GoodC.at_ hlt
      obtain ⟨b, off, rfl, _, d1, _, _⟩ := E1.hN.at_ hx
      clear hx
      cases hkid : isKid ns m k
      · have hu : ((nodeAt ns k).u == (m : Int)) = false := by
          rw [beq_eq_false_iff_ne]
          intro e
          simp [isKid, e] at hkid
          omega
        have HK := Lib.hid (kidsI_no hkid)
        clear hkid
        go_wp2
        go_roundw
        case rel => exact ⟨k + 1, by omega, by omega, by go_num, by rw [HK.out]; exact HV, hb⟩
        case measure => simp [intOf]; omega
      · have hu : ((nodeAt ns k).u == (m : Int)) = true := by
          simp only [isKid, Bool.and_eq_true, decide_eq_true_eq] at hkid
          simpa using hkid.2
        have HK := Lib.hid (kidsI_yes hkid)
        clear hkid
        go_wp2_with (at_builtin; go_must (refine wpl_app rfl (.tmp 22) (.tmp 24) rfl (w.heap.size + 1) (w.heap.size + 1) _ (kidsI ns m k) k rfl (Ints.below_ HV.out ((Below.refl _ wr).alloc (Nat.le_refl _) _) (Nat.le_refl _)) ⟨wr.heap.size, 0, none⟩ 1 rfl (Boxed.cell (Boxed.new wr 3 (.int .i64 k))) (by have := kidsI_len ns m k; omega) (by simp; omega) (Nat.le_refl _) ?_; intro v' w4 hown4 hb7))
        go_roundw
        case rel => exact ⟨k + 1, by omega, by omega, by go_num, Lib.hid (by rw [HK.out]; exact hown4), hb.trans (((Below.refl _ wr).alloc hsz _).trans hb7)⟩
        case measure => simp [intOf]; omega
    · obtain rfl : k = ns.length := by omega
      obtain ⟨A3, c3, rfl, hA3, hI3⟩ := Ints.lay HV.out
      have HI3 := Lib.hid hI3
      clear hA3 hI3
      go_wp2
      go_ret
      exact ⟨A3, c3, by simp [kidsI_all], HI3.out, E1.hb⟩

end Go.Proofs.Ytmbcpmnigggbaaa.Sh
namespace Go.Proofs.Ytmbcpmnigggbaaa.Sh
open Go.RowKit

theorem below_is (A : Option Addr) (c : Nat) (ns : List Node) (m : Nat) (u : Int) (hu : (m : Int) = u) (hn : ns.length ≤ 1000) (h1 : 1 ≤ ns.length) (w : World) (hN : Nodes w w.heap.size A ns) :
    Calls Try.prog 111 #[.agg #[.slice A ns.length c], .int .i64 u] w fun e w' => ∃ B d, e = .returned (.slice B (kidsN ns m).length d) ∧ IntsAt w' w'.heap.size B ((kidsN ns m).map (fun i : Nat => (i : Int))) ∧ Below w.heap.size w w' := by
  subst hu
  exact below_any A c ns m hn h1 w hN

theorem firstI_snoc (ns : List Node) (l : List Nat) (x : Nat) : firstI ns (l ++ [x]) = if firstI ns l < 0 then (if 0 < (nodeAt ns x).w then (x : Int) else -1) else firstI ns l := by
  unfold firstI
  rw [List.find?_append]
  cases h : l.find? (fun i => decide (0 < (nodeAt ns i).w)) with
  | some i =>
    simp only [Option.some_or]
    rw [if_neg (by omega)]
  | none =>
    simp only [Option.none_or]
    rw [if_pos (by omega)]
    by_cases hx : 0 < (nodeAt ns x).w
    · simp [hx]
    · simp [hx]
theorem firstI_neg (ns : List Node) (l : List Nat) : firstI ns l = -1 ∨ ∃ x, x ∈ l ∧ firstI ns l = (x : Int) := by
  unfold firstI
  cases h : l.find? (fun i => decide (0 < (nodeAt ns i).w)) with
  | some i => exact .inr ⟨i, List.mem_of_find?_eq_some h, rfl⟩
  | none => exact .inl rfl

/-- The world in which a list of the nodes below stands. -/
structure EnvL (w : World) (A : Option Addr) (c : Nat) (ns : List Node) (B : Option Addr) (l : List Nat) (W : World) : Prop where
  e : Env w A c ns W
  hI : IntsAt W W.heap.size B (l.map (fun i : Nat => (i : Int)))
theorem EnvL.next {w : World} {A : Option Addr} {c : Nat} {ns : List Node} {B : Option Addr} {l : List Nat} {W W' : World} (h : EnvL w A c ns B l W) (hb : Below W.heap.size W W') : EnvL w A c ns B l W' :=
  ⟨h.e.next hb, ilt h.hI hb⟩

set_option maxRecDepth 100000 in
set_option maxHeartbeats 8000000 in
theorem isFirst_any (A : Option Addr) (c : Nat) (ns : List Node) (m : Nat) (hg : GoodC ns) (hm : m < ns.length) (w : World) (hN : Nodes w w.heap.size A ns) :
    Calls Try.prog 51 #[.agg #[.slice A ns.length c], .int .i64 m] w fun e w' => e = .returned (.bool (isFirstB ns m)) ∧ Below w.heap.size w w' := by
  have EH := Lib.hid (Env.new c hN)
  have hl8 := hg.l8
  clear hN
  go_enter Try.func51, Try.ntmps51
  go_wp2
  go_loopw [1, 5, 6, 7] (fun i _ _ _ wr => ∃ n : Nat, n < ns.length ∧ i = .int .i64 n ∧ Hid (isFirstB ns n = isFirstB ns m ∧ Env w A c ns wr)) (fun i _ _ _ _ => (intOf i).toNat)
  case atStart => exact ⟨m, hm, rfl, Lib.hid ⟨rfl, EH.out⟩⟩
  case round =>
    obtain ⟨n, hn, rfl, HR⟩ := hrel
    by_cases h0 : 0 < n
    · have E1 := HR.out.2
      have HE1 := Lib.hid E1
      obtain ⟨u1, u2⟩ := hg.upN hn h0
      obtain ⟨b, off, rfl, _, d1, _, _⟩ := E1.hN.at_ (GoodC.at_ hn)
      have q0 := extB_cell E1.bC.cell
      have q1 := extB_cell d1
      have p0 := E1.bC.cell
      have p1 := d1
      have hu : (upN ns n : Int) = (nodeAt ns n).u := u2
      have hun : upN ns n < n := u1
      have HUP := Lib.hid (isFirst_up hg hn h0)
      clear d1 u1 u2 E1
      go_wp2
      go_still_tail 7, (by kernel_rfl)
      change wpList _ _ _ _ _ wr.drew
      obtain ⟨W2, hW2⟩ : ∃ W2, wr.drew = W2 := ⟨_, rfl⟩
      have E2 : Env w (some ⟨b, off, none⟩) c ns W2 := by rw [← hW2]; exact HE1.out.next (drew_below wr)
      rw [hW2]
      clear hW2
      go_wp2_with (go_at_call 111; go_must (refine (below_is _ _ _ (upN ns n) _ hu (by omega) hg.l1 W2 E2.hN).mono ?_; rintro e w1 ⟨B, d, rfl, hI, hb1⟩))
      have EL := Lib.hid (show EnvL w (some ⟨b, off, none⟩) c ns B (kidsN ns (upN ns n)) w1 from ⟨E2.next hb1, hI⟩)
      have hkl := kidsN_len hg (upN ns n)
      clear hI E2
      go_loopw [6, 7] (fun f i wr2 => ∃ j : Nat, j ≤ (kidsN ns (upN ns n)).length ∧ i = .int .i64 j ∧ f = .int .i64 (firstI ns ((kidsN ns (upN ns n)).take j)) ∧ Hid (EnvL w (some ⟨b, off, none⟩) c ns B (kidsN ns (upN ns n)) wr2))
        (fun _ i _ => (kidsN ns (upN ns n)).length - (intOf i).toNat)
      case atStart => exact ⟨0, Nat.zero_le _, rfl, rfl, EL⟩
      case round =>
        obtain ⟨j, hj, rfl, rfl, HL⟩ := hrel
        by_cases hlt : j < (kidsN ns (upN ns n)).length
        · obtain ⟨x, hx⟩ : ∃ x, (kidsN ns (upN ns n))[j]? = some x := ⟨_, List.getElem?_eq_getElem hlt⟩
          have hxl := (mem_kids.1 (List.mem_of_getElem? hx)).1
          have hs := firstI_snoc ns ((kidsN ns (upN ns n)).take j) x
          rw [← show (kidsN ns (upN ns n)).take (j + 1) = (kidsN ns (upN ns n)).take j ++ [x] from by rw [List.take_add_one, hx]; rfl] at hs
          have HX := Lib.hid hx
          have hneg := firstI_neg ns ((kidsN ns (upN ns n)).take j)
          generalize firstI ns ((kidsN ns (upN ns n)).take j) = f at *
          have r0 := extB_cell HL.out.e.bC.cell
          obtain ⟨b2, o2, hB, _, e2⟩ := IntsAt.at_ HL.out.hI (k := j) (x := (x : Int)) (by rw [List.getElem?_map, hx]; rfl)
          subst hB
          obtain ⟨_, _, ee, _, _, d2, _⟩ := HL.out.e.hN.at_ (GoodC.at_ hxl)
          cases ee
          have r1 := extB_cell e2
          have r2 := extB_cell d2
          have e2' := e2
          clear hx e2 d2
          rcases hneg with rfl | ⟨y, _, rfl⟩
          · by_cases hpos : 0 < (nodeAt ns x).w
            · rw [if_pos (by omega), if_pos hpos] at hs
              have HS := Lib.hid hs
              have hp1 : decide (0 < (nodeAt ns x).w) = true := decide_eq_true hpos
              clear hs hpos
              go_wp2
              refine wp_region_ext (by kernel_rfl) (by kernel_rfl) ?_
              repeat (go_big_quiet_step (fail))
              refine wpQuiet_nil ?_
              rintro _ ⟨x1, rfl⟩
              have HL2 := Lib.hid (HL.out.next (extB_below wr x1))
              have r3 := r1 x1
              go_wp2
              go_roundw
              case rel => exact ⟨j + 1, by omega, by go_num, by rw [HS.out], HL2⟩
              case measure => simp [intOf]; omega
            · rw [if_pos (by omega), if_neg hpos] at hs
              have HS := Lib.hid hs
              have hp1 : decide (0 < (nodeAt ns x).w) = false := decide_eq_false hpos
              clear hs hpos
              go_wp2
              refine wp_region_ext (by kernel_rfl) (by kernel_rfl) ?_
              repeat (go_big_quiet_step (fail))
              refine wpQuiet_nil ?_
              rintro _ ⟨x1, rfl⟩
              have HL2 := Lib.hid (HL.out.next (extB_below wr x1))
              go_wp2
              go_roundw
              case rel => exact ⟨j + 1, by omega, by go_num, by rw [HS.out], HL2⟩
              case measure => simp [intOf]; omega
          · rw [if_neg (by omega)] at hs
            have HS := Lib.hid hs
            have hp1 : decide ((y : Int) < 0) = false := decide_eq_false (by omega)
            clear hs
            go_wp2
            refine wp_region_ext (by kernel_rfl) (by kernel_rfl) ?_
            repeat (go_big_quiet_step (fail))
            refine wpQuiet_nil ?_
            rintro _ ⟨x1, rfl⟩
            have HL2 := Lib.hid (HL.out.next (extB_below wr x1))
            go_wp2
            go_roundw
            case rel => exact ⟨j + 1, by omega, by go_num, by rw [HS.out], HL2⟩
            case measure => simp [intOf]; omega
        · obtain rfl : j = (kidsN ns (upN ns n)).length := by omega
          have hup := HUP.out
          generalize hfd : firstI ns ((kidsN ns (upN ns n)).take (kidsN ns (upN ns n)).length) = f at *
          rw [List.take_length] at hfd
          rw [hfd] at hup
          have E5 := HL.out.e
          have q5 := E5.bC.cell
          obtain ⟨_, _, ee, _, d5, _, _⟩ := E5.hN.at_ (GoodC.at_ hn)
          cases ee
          by_cases heq : f = (n : Int)
          · rw [if_pos heq] at hup
            have HQ := Lib.hid (hup.symm.trans HR.out.1)
            have hb5 : (f != (n : Int)) = false := by rw [heq]; simp
            have HE5 := Lib.hid E5
            clear hup hfd heq E5
            go_wp2
            go_roundw
            case rel => exact ⟨upN ns n, by omega, by rw [hu], Lib.hid ⟨HQ.out, HE5.out⟩⟩
            case measure => simp [intOf]; omega
          · rw [if_neg heq] at hup
            have HQ := Lib.hid (show isFirstB ns m = false from by rw [← HR.out.1]; exact hup)
            have hb5 : (f != (n : Int)) = true := by simpa using heq
            have HE5 := Lib.hid E5.hb
            clear hup hfd heq E5
            go_wp2
            go_ret
            exact ⟨by rw [HQ.out]; rfl, HE5.out⟩
    · obtain rfl : n = 0 := by omega
      have HQ := Lib.hid (show isFirstB ns m = true from by rw [← HR.out.1]; rfl)
      have HB := Lib.hid HR.out.2.hb
      go_wp2
      go_ret
      exact ⟨by rw [HQ.out]; rfl, HB.out⟩
end Go.Proofs.Ytmbcpmnigggbaaa.Sh
namespace Go.Proofs.Ytmbcpmnigggbaaa.Sh
open Go.RowKit

theorem Ints.some_ {W : World} {base : Nat} {v : Value} {l : List Int} (h : Ints W base v l) (h1 : l ≠ []) : ∃ g cap, v = .slice (some ⟨g, 0, none⟩) l.length cap ∧ base ≤ g := by
  rcases h.2 with ⟨e, h0⟩ | ⟨g', cap', cur, e, hb, hg, _⟩
  · exact absurd (List.length_eq_zero_iff.1 h0) h1
  · exact ⟨g', cap', e, hb⟩
/-- The nodes below a node, as nodes. -/
def kidL (ns : List Node) (m : Nat) : List Node := (kidsN ns m).map (nodeAt ns)
theorem kidL_len (ns : List Node) (m : Nat) : (kidL ns m).length = (kidsN ns m).length := by simp [kidL]
/-- At the j-th node below. -/
theorem kid_at {ns : List Node} {m j : Nat} (hj : j < (kidsN ns m).length) : ∃ x, (kidsN ns m)[j]? = some x ∧ x < ns.length ∧ (kidL ns m)[j]? = some (nodeAt ns x) ∧ nodeAt (kidL ns m) j = nodeAt ns x ∧ ((kidsN ns m).map (fun i : Nat => (i : Int)))[j]? = some (x : Int) := by
  obtain ⟨x, hx⟩ : ∃ x, (kidsN ns m)[j]? = some x := ⟨_, List.getElem?_eq_getElem hj⟩
  have h2 : (kidL ns m)[j]? = some (nodeAt ns x) := by rw [kidL, List.getElem?_map, hx]; rfl
  exact ⟨x, hx, (mem_kids.1 (List.mem_of_getElem? hx)).1, h2, by rw [nodeAt, h2]; rfl, by rw [List.getElem?_map, hx]; rfl⟩
open Go.RowKit

end Go.Proofs.Ytmbcpmnigggbaaa.Sh
namespace Go.Proofs.Ytmbcpmnigggbaaa.Sh
open Go.RowKit

open Go.RowKit

end Go.Proofs.Ytmbcpmnigggbaaa.Sh
namespace Go.Proofs.Ytmbcpmnigggbaaa.Sh
open Go.RowKit

open Go.RowKit

end Go.Proofs.Ytmbcpmnigggbaaa.Sh
namespace Go.Proofs.Ytmbcpmnigggbaaa
open Go.RowKit
/-! Sold of the program, 9, and of the specification, 10. -/
theorem paid_small {f : Fair} (h : FOK f) : 0 ≤ paidTo f.q (rdF f) f.nb.toNat ∧ paidTo f.q (rdF f) f.nb.toNat ≤ 396 := by
  have h1 := paid_le h
  have h2 : mW f = bringsL f.q (wL f) := mostV_win h.ql h.pos'
  have h3 := brings_le h.pay (wL f)
  have h4 := sale_buyers (n := f.nb.toNat) (wL_win h).sale fun b hb => by
    have := h.who b hb
    have := h.n0
    omega
  have h5 := h.n1
  omega
theorem Sh.ck_valid {ns : List Sh.Node} (hk : Sh.ckE ns = 0) : Sh.validB ns = true := by
  cases h : Sh.validB ns
  · rw [Sh.ckE_no h] at hk
    exact absurd hk (by decide)
  · rfl
theorem Sh.pence_zero {ns : List Sh.Node} {p : Int} (hk : Sh.ckE ns = 0) (h0 : 0 ≤ p) (h4 : p ≤ 400) : Sh.penceE ns p = 0 := by
  have hv := Sh.ck_valid hk
  have hi : Sh.inR p 0 400 = true := Sh.inR_true.2 ⟨h0, h4⟩
  simp [Sh.penceE, Sh.askE, hv, hi]
def soldRet (ns : List Sh.Node) (f : Fair) : List Int × Int := if Sh.ckE ns = 0 then (if (paidRet f).2 = 0 then (Sh.keptsS ns (paidRet f).1, 0) else ([], (paidRet f).2)) else ([], Sh.ckE ns)
def SoldEnd (r : List Int × Int) (w' : World) (e : Ending) : Prop := ∃ A c, e = .returned (.tuple #[.slice A r.1.length c, .int .i64 r.2]) ∧ IntsAt w' w'.heap.size A r.1
structure SIn (W : World) (b : Nat) (A : Option Addr) (c : Nat) (ns : List Sh.Node) (F : FL) (f : Fair) : Prop where
  N : Sh.Nodes W W.heap.size A ns
  bx : W.heap[b]? = some (.cells #[.slice A ns.length c] 76)
  H : FairAt W W.heap.size F f
  x : FBox W (b + 1) F f
theorem SIn.next {W W' : World} {b : Nat} {A : Option Addr} {c : Nat} {ns : List Sh.Node} {F : FL} {f : Fair} (h : SIn W b A c ns F f) (hb : Below W.heap.size W W') : SIn W' b A c ns F f :=
  ⟨Sh.Nodes.lt h.N hb, (hb.block _ (heap_lt h.bx)).trans h.bx, h.H.below hb, h.x.of (hb.block _ h.x.lt)⟩
set_option maxRecDepth 100000 in
set_option maxHeartbeats 4000000 in
theorem Sold_any (A : Option Addr) (c : Nat) (ns : List Sh.Node) (hn : ns.length ≤ 1000) (F : FL) (f : Fair) (hfn : FN f) (w : World) (hN : Sh.Nodes w w.heap.size A ns) (hF : FairAt w w.heap.size F f) :
    Calls Try.prog 41 #[.agg #[.slice A ns.length c], F.enc f] w fun e w' => SoldEnd (soldRet ns f) w' e ∧ Below w.heap.size w w' := by
  obtain ⟨W0, hW0⟩ : ∃ W0, (w.alloc (.cells #[.slice A ns.length c] 76)).alloc (.cells #[.slice F.L.Ak f.h.ks.length F.L.ck, .int .i64 f.h.fl, .slice F.L.Ap f.h.ps.length F.L.cp, .slice F.L.Ab f.h.bs.length F.L.cb, .slice F.Ap f.pk.length F.cp, .int .i64 f.day, .int .i64 f.nb, .slice F.Aq f.q.length F.cq] 62) = W0 := ⟨_, rfl⟩
  have hbw : Below w.heap.size w W0 := by rw [← hW0]; exact hb0to (al_below _ _) (al_below _ _)
  have hx0 : FBox W0 (w.heap.size + 1) F f := by rw [← hW0]; exact heap_new2 _ _ _
  have hy0 : W0.heap[w.heap.size]? = some (.cells #[.slice A ns.length c] 76) := by rw [← hW0]; exact heap_keep (heap_new1 _ _)
  have HW0 := Lib.hid hW0
  have HBW := Lib.hid hbw
  have M := Lib.hid (SIn.mk (Sh.Nodes.lt hN hbw) hy0 (hF.below hbw) hx0)
  have B := Lib.hid (Below.refl W0.heap.size W0)
  obtain ⟨r0, r1, r2, r3, r4, r5, r6, r7⟩ := hx0.cells
  have k0 := cell_of_heap (o := 0) hy0 rfl
  clear hW0 hbw hx0 hy0 hN hF
  have HC := Lib.hid (fun W hW => Sh.check_any A c ns hn W hW)
  have HP := Lib.hid (fun W hW => Paid_any F f hfn W hW)
  by_cases hk : Sh.ckE ns = 0
  · rw [hk] at HC
    by_cases ha : askF f true = 0
    · obtain ⟨p, hpe⟩ : ∃ p, p = paidTo f.q (rdF f) f.nb.toNat := ⟨_, rfl⟩
      have hq : paidRet f = (p, 0) := by rw [hpe]; exact numRF_ok ha
      have hp : 0 ≤ p ∧ p ≤ 400 := by
        have h := paid_small (FOK.of (askF_ok ha).1)
        rw [← hpe] at h
        omega
      have HQ := Lib.hid (show soldRet ns f = (Sh.keptsS ns p, 0) by unfold soldRet; rw [hq, if_pos hk, if_pos rfl])
      have HL := Lib.hid (show (Sh.keptsS ns p).length = ns.length by simp [Sh.keptsS])
      have HK := Lib.hid (fun W hW => Sh.keepsAll_ok A c ns p hn W hW (Sh.pence_zero hk hp.1 hp.2))
      rw [hq] at HP
      clear hk ha hpe hq hp hfn
      obtain ⟨L, Ap, cp, Aq, cq⟩ := F
      go_enter Try.func41, Try.ntmps41
      go_upto_region 1 with (fail)
      have e := HW0.out
      rw [e]
      clear e
      go_wp2_with (first
        | (go_at_call 105; refine (HC.out _ M.out.N).mono ?_; rintro e wn ⟨rfl, hb⟩; have MN := Lib.hid (M.out.next hb); have BN := Lib.hid (hb0to B.out hb); have M := MN; have B := BN; clear MN BN; skip; obtain ⟨r0, r1, r2, r3, r4, r5, r6, r7⟩ := M.out.x.cells; have k0 := cell_of_heap (o := 0) M.out.bx rfl; clear hb)
        | (go_at_call 39; refine (HP.out _ M.out.H).mono ?_; rintro e wn ⟨rfl, hb⟩; have MN := Lib.hid (M.out.next hb); have BN := Lib.hid (hb0to B.out hb); have M := MN; have B := BN; clear MN BN; skip; obtain ⟨r0, r1, r2, r3, r4, r5, r6, r7⟩ := M.out.x.cells; have k0 := cell_of_heap (o := 0) M.out.bx rfl; clear hb)
        | (go_at_call 43; refine (HK.out _ M.out.N).mono ?_; rintro e wn ⟨b9, rfl, _, hrow, hb⟩; have BN := Lib.hid (hb0to B.out hb); have HI := Lib.hid (Sh.row_ints hrow); clear hb hrow))
      go_ret2
      refine ⟨?_, hb0to HBW.out BN.out⟩
      rw [HQ.out]
      exact ⟨some ⟨b9, 0, none⟩, ns.length, by rw [HL.out]; rfl, HI.out⟩
    · obtain ⟨er, her⟩ : ∃ x, x = askF f true := ⟨_, rfl⟩
      have hq : paidRet f = (0, er) := by rw [her]; exact numRF_no rfl ha
      rw [← her] at ha
      have HQ := Lib.hid (show soldRet ns f = ([], er) by unfold soldRet; rw [hq, if_pos hk, if_neg ha])
      have hd : (er != 0) = true := bne_iff_ne.2 ha
      rw [hq] at HP
      clear hk ha her hq hfn
      obtain ⟨L, Ap, cp, Aq, cq⟩ := F
      go_enter Try.func41, Try.ntmps41
      go_upto_region 1 with (fail)
      have e := HW0.out
      rw [e]
      clear e
      go_wp2_with (first
        | (go_at_call 105; refine (HC.out _ M.out.N).mono ?_; rintro e wn ⟨rfl, hb⟩; have MN := Lib.hid (M.out.next hb); have BN := Lib.hid (hb0to B.out hb); have M := MN; have B := BN; clear MN BN; skip; obtain ⟨r0, r1, r2, r3, r4, r5, r6, r7⟩ := M.out.x.cells; have k0 := cell_of_heap (o := 0) M.out.bx rfl; clear hb)
        | (go_at_call 39; refine (HP.out _ M.out.H).mono ?_; rintro e wn ⟨rfl, hb⟩; have MN := Lib.hid (M.out.next hb); have BN := Lib.hid (hb0to B.out hb); have M := MN; have B := BN; clear MN BN; skip; obtain ⟨r0, r1, r2, r3, r4, r5, r6, r7⟩ := M.out.x.cells; have k0 := cell_of_heap (o := 0) M.out.bx rfl; clear hb))
      go_ret2
      exact ⟨by rw [HQ.out]; exact ⟨none, 0, rfl, .inl rfl⟩, hb0to HBW.out B.out⟩
  · obtain ⟨er, her⟩ : ∃ x, x = Sh.ckE ns := ⟨_, rfl⟩
    rw [← her] at hk HC
    have HQ := Lib.hid (show soldRet ns f = ([], er) by unfold soldRet; rw [← her, if_neg hk])
    have hd : (er != 0) = true := bne_iff_ne.2 hk
    clear hk her hfn
    obtain ⟨L, Ap, cp, Aq, cq⟩ := F
    go_enter Try.func41, Try.ntmps41
    go_upto_region 1 with (fail)
    have e := HW0.out
    rw [e]
    clear e
    go_wp2_with (go_at_call 105; refine (HC.out _ M.out.N).mono ?_; rintro e wn ⟨rfl, hb⟩; have MN := Lib.hid (M.out.next hb); have BN := Lib.hid (hb0to B.out hb); have M := MN; have B := BN; clear MN BN; skip; obtain ⟨r0, r1, r2, r3, r4, r5, r6, r7⟩ := M.out.x.cells; have k0 := cell_of_heap (o := 0) M.out.bx rfl; clear hb)
    go_ret2
    exact ⟨by rw [HQ.out]; exact ⟨none, 0, rfl, .inl rfl⟩, hb0to HBW.out B.out⟩
end Go.Proofs.Ytmbcpmnigggbaaa
