import Derived.Test.YtmbcpmnigggbaabGreatLT4
import Derived.Test.YtmbcpmnigggbaabGreatRows
import Derived.Test.YtmbcpmnigggbaabGreatC3
import Derived.Test.YtmbcpmnigggbaabGreatSG
import Derived.WalkKit
import Derived.ProofKit
import Derived.OpenShut
import Derived.Carry
import Derived.Deep.Slices
import Derived.Deep.Fields
import Derived.ChangeSame
import Derived.Lib.SmallJoins
import Derived.ChangeSlices
namespace Go.Proofs.YtmbcpmnigggbaabGreat.Cu
open Go.RowKit
attribute [local go_sem] Oper.semAt_some

/-! TopLots 3. -/
theorem box3 {W : World} {b : Nat} {x y z : Value} {t : TypeId} (h : W.heap[b]? = some (.cells #[x, y, z] t (0, 0))) : W.cell? ⟨b, 0, none⟩ = some x ∧ W.cell? ⟨b, 1, none⟩ = some y ∧ W.cell? ⟨b, 2, none⟩ = some z :=
  ⟨cell_of_heap h rfl, cell_of_heap h rfl, cell_of_heap h rfl⟩
theorem drew_belowS (w : World) : Below w.heap.size w w.drew := (Below.refl _ w).drew
set_option maxRecDepth 100000 in
set_option maxHeartbeats 4000000 in
theorem lots_law (A0 : Option Addr) (c0 : Nat) (t : List CP) (A2 : Option Addr) (c2 : Nat) (c : List Int) (hA2 : A2 = none → c2 = 0 ∧ c = []) (A3 : Option Addr) (c3 : Nat) (x : List Int) (all : Int) (w : World)
    (hT : TableAt w w.heap.size A0 t) (hI : IntsAt w w.heap.size A2 c) (hJ : IntsAt w w.heap.size A3 x) :
    Calls Tryz.prog 3 #[.slice A0 t.length c0, .agg #[.slice A2 c.length c2, .slice A3 x.length c3, .int .i64 all]] w fun e w' => e = .returned (.bool true) ∧ Below w.heap.size w w' := by
  have hb := al_below w (.cells #[.slice A2 c.length c2, .slice A3 x.length c3, .int .i64 all] 25)
  have hx := heap_new1 w (.cells #[.slice A2 c.length c2, .slice A3 x.length c3, .int .i64 all] 25)
  obtain ⟨W0, hW0⟩ : ∃ W0, w.alloc (.cells #[.slice A2 c.length c2, .slice A3 x.length c3, .int .i64 all] 25) = W0 := ⟨_, rfl⟩
  rw [hW0] at hb hx
  have HBW := Lib.hid hb
  have HX := Lib.hid hx
  have HT := Lib.hid (hT.lt hb)
  have HI := Lib.hid (ints_lt7 hI hb)
  have HJ := Lib.hid (ints_lt7 hJ hb)
  have B := Lib.hid (Below.refl W0.heap.size W0)
  have HW0 := Lib.hid hW0
  have HA2 := Lib.hid hA2
  obtain ⟨r0, r1, r2⟩ := box3 ((B.out.block _ (heap_lt HX.out)).trans HX.out)
  clear hb hx hW0 hT hI hJ hA2
  by_cases h40 : 40 < t.length
  · have hd : decide ((40 : Int) < (t.length : Int)) = true := decide_eq_true (by omega)
    have hd' : (40 : Int) < (t.length : Int) := by omega
    go_enter Tryz.func3, Tryz.ntmps3
    go_upto_region 1 with (fail)
    have e := HW0.out
    rw [e]
    clear e HW0
    go_wp2_with (first
      | (go_at_call 7; refine (lots_any _).mono ?_; rintro e w9 ⟨rfl, hb⟩; have BN := Lib.hid (hb0to B.out hb); clear B hb r0 r1 r2; have B := BN; clear BN; obtain ⟨r0, r1, r2⟩ := box3 ((B.out.block _ (heap_lt HX.out)).trans HX.out)))
    go_ret
    exact ⟨rfl, hb0to HBW.out B.out⟩
  have hd1 : decide ((40 : Int) < (t.length : Int)) = false := decide_eq_false (by omega)
  have hd1' : ¬ (40 : Int) < (t.length : Int) := by omega
  have H4 := Lib.hid (fun W hT => check7_any A0 c0 t (by omega) W hT)
  by_cases hck : chkT t = true
  rotate_left
  · rw [errT_no (Bool.eq_false_iff.2 hck)] at H4
    go_enter Tryz.func3, Tryz.ntmps3
    go_upto_region 1 with (fail)
    have e := HW0.out
    rw [e]
    clear e HW0
    go_wp2_with (first
      | (go_at_call 4; refine (H4.out _ (HT.out.lt B.out)).mono ?_; clear H4; rintro e w1 ⟨rfl, hb⟩; have BN := Lib.hid (hb0to B.out hb); clear B hb r0 r1 r2; have B := BN; clear BN; obtain ⟨r0, r1, r2⟩ := box3 ((B.out.block _ (heap_lt HX.out)).trans HX.out))
      | (go_at_call 7; refine (lots_any _).mono ?_; rintro e w9 ⟨rfl, hb⟩; have BN := Lib.hid (hb0to B.out hb); clear B hb r0 r1 r2; have B := BN; clear BN; obtain ⟨r0, r1, r2⟩ := box3 ((B.out.block _ (heap_lt HX.out)).trans HX.out)))
    go_ret
    exact ⟨rfl, hb0to HBW.out B.out⟩
  rw [errT_yes hck] at H4
  have hOK := chkT_ok hck
  by_cases hx40 : 40 < x.length
  · have hd : decide ((40 : Int) < (x.length : Int)) = true := decide_eq_true (by omega)
    have hd' : (40 : Int) < (x.length : Int) := by omega
    go_enter Tryz.func3, Tryz.ntmps3
    go_upto_region 1 with (fail)
    have e := HW0.out
    rw [e]
    clear e HW0
    go_wp2_with (first
      | (go_at_call 4; refine (H4.out _ (HT.out.lt B.out)).mono ?_; clear H4; rintro e w1 ⟨rfl, hb⟩; have BN := Lib.hid (hb0to B.out hb); clear B hb r0 r1 r2; have B := BN; clear BN; obtain ⟨r0, r1, r2⟩ := box3 ((B.out.block _ (heap_lt HX.out)).trans HX.out))
      | (go_at_call 7; refine (lots_any _).mono ?_; rintro e w9 ⟨rfl, hb⟩; have BN := Lib.hid (hb0to B.out hb); clear B hb r0 r1 r2; have B := BN; clear BN; obtain ⟨r0, r1, r2⟩ := box3 ((B.out.block _ (heap_lt HX.out)).trans HX.out)))
    go_ret
    exact ⟨rfl, hb0to HBW.out B.out⟩
  have hd2 : decide ((40 : Int) < (x.length : Int)) = false := decide_eq_false (by omega)
  have hd2' : ¬ (40 : Int) < (x.length : Int) := by omega
  by_cases hc40 : 40 < c.length
  · have hd : decide ((40 : Int) < (c.length : Int)) = true := decide_eq_true (by omega)
    have hd' : (40 : Int) < (c.length : Int) := by omega
    go_enter Tryz.func3, Tryz.ntmps3
    go_upto_region 1 with (fail)
    have e := HW0.out
    rw [e]
    clear e HW0
    go_wp2_with (first
      | (go_at_call 4; refine (H4.out _ (HT.out.lt B.out)).mono ?_; clear H4; rintro e w1 ⟨rfl, hb⟩; have BN := Lib.hid (hb0to B.out hb); clear B hb r0 r1 r2; have B := BN; clear BN; obtain ⟨r0, r1, r2⟩ := box3 ((B.out.block _ (heap_lt HX.out)).trans HX.out))
      | (go_at_call 7; refine (lots_any _).mono ?_; rintro e w9 ⟨rfl, hb⟩; have BN := Lib.hid (hb0to B.out hb); clear B hb r0 r1 r2; have B := BN; clear BN; obtain ⟨r0, r1, r2⟩ := box3 ((B.out.block _ (heap_lt HX.out)).trans HX.out)))
    go_ret
    exact ⟨rfl, hb0to HBW.out B.out⟩
  have hd3 : decide ((40 : Int) < (c.length : Int)) = false := decide_eq_false (by omega)
  have hd3' : ¬ (40 : Int) < (c.length : Int) := by omega
  have H5 := Lib.hid (fun W hT hJ => isTruth_any A0 c0 t hOK A3 c3 x (by omega) W hT hJ)
  by_cases htr : Truth t x
  rotate_left
  · have HTR := Lib.hid htr
    go_enter Tryz.func3, Tryz.ntmps3
    go_upto_region 1 with (fail)
    have e := HW0.out
    rw [e]
    clear e HW0
    go_wp2_with (first
      | (go_at_call 4; refine (H4.out _ (HT.out.lt B.out)).mono ?_; clear H4; rintro e w1 ⟨rfl, hb⟩; have BN := Lib.hid (hb0to B.out hb); clear B hb r0 r1 r2; have B := BN; clear BN; obtain ⟨r0, r1, r2⟩ := box3 ((B.out.block _ (heap_lt HX.out)).trans HX.out))
      | (go_at_call 5; refine (H5.out _ (HT.out.lt B.out) (ints_lt7 HJ.out B.out)).mono ?_; clear H5; rintro e w2 ⟨bt, rfl, hbt, hb⟩; have BN := Lib.hid (hb0to B.out hb); clear B hb r0 r1 r2; have B := BN; clear BN; obtain ⟨r0, r1, r2⟩ := box3 ((B.out.block _ (heap_lt HX.out)).trans HX.out); obtain rfl : bt = false := Bool.eq_false_iff.2 (fun h => HTR.out (hbt.1 h)); clear hbt)
      | (go_at_call 7; refine (lots_any _).mono ?_; rintro e w9 ⟨rfl, hb⟩; have BN := Lib.hid (hb0to B.out hb); clear B hb r0 r1 r2; have B := BN; clear BN; obtain ⟨r0, r1, r2⟩ := box3 ((B.out.block _ (heap_lt HX.out)).trans HX.out)))
    go_ret
    exact ⟨rfl, hb0to HBW.out B.out⟩
  have HTR := Lib.hid htr
  have H6 := Lib.hid (fun W hT hI => isCut_any A0 c0 t hOK.n A2 c2 c (by omega) W hT hI)
  by_cases hct : CutOK t c
  rotate_left
  · have HCT := Lib.hid hct
    go_enter Tryz.func3, Tryz.ntmps3
    go_upto_region 1 with (fail)
    have e := HW0.out
    rw [e]
    clear e HW0
    go_wp2_with (first
      | (go_at_call 4; refine (H4.out _ (HT.out.lt B.out)).mono ?_; clear H4; rintro e w1 ⟨rfl, hb⟩; have BN := Lib.hid (hb0to B.out hb); clear B hb r0 r1 r2; have B := BN; clear BN; obtain ⟨r0, r1, r2⟩ := box3 ((B.out.block _ (heap_lt HX.out)).trans HX.out))
      | (go_at_call 5; refine (H5.out _ (HT.out.lt B.out) (ints_lt7 HJ.out B.out)).mono ?_; clear H5; rintro e w2 ⟨bt, rfl, hbt, hb⟩; have BN := Lib.hid (hb0to B.out hb); clear B hb r0 r1 r2; have B := BN; clear BN; obtain ⟨r0, r1, r2⟩ := box3 ((B.out.block _ (heap_lt HX.out)).trans HX.out); obtain rfl := hbt.2 HTR.out; clear hbt)
      | (go_at_call 6; refine (H6.out _ (HT.out.lt B.out) (ints_lt7 HI.out B.out)).mono ?_; clear H6; rintro e w3 ⟨bt, rfl, hbt, hb⟩; have BN := Lib.hid (hb0to B.out hb); clear B hb r0 r1 r2; have B := BN; clear BN; obtain ⟨r0, r1, r2⟩ := box3 ((B.out.block _ (heap_lt HX.out)).trans HX.out); obtain rfl : bt = false := Bool.eq_false_iff.2 (fun h => HCT.out (hbt.1 h)); clear hbt)
      | (go_at_call 7; refine (lots_any _).mono ?_; rintro e w9 ⟨rfl, hb⟩; have BN := Lib.hid (hb0to B.out hb); clear B hb r0 r1 r2; have B := BN; clear BN; obtain ⟨r0, r1, r2⟩ := box3 ((B.out.block _ (heap_lt HX.out)).trans HX.out)))
    go_ret
    exact ⟨rfl, hb0to HBW.out B.out⟩
  have HCT := Lib.hid hct
  have HOK := Lib.hid hOK
  have HXL := Lib.hid htr.p.n
  have HXR := Lib.hid htr.p.r
  have HCL := Lib.hid (show c.length ≤ 40 by omega)
  clear h40 hx40 hc40 hck htr hct hOK
  go_enter Tryz.func3, Tryz.ntmps3
  go_upto_region 1 with (fail)
  have e := HW0.out
  rw [e]
  clear e HW0
  go_upto_region 3 with (first
    | (go_at_call 4; refine (H4.out _ (HT.out.lt B.out)).mono ?_; clear H4; rintro e w1 ⟨rfl, hb⟩; have BN := Lib.hid (hb0to B.out hb); clear B hb r0 r1 r2; have B := BN; clear BN; obtain ⟨r0, r1, r2⟩ := box3 ((B.out.block _ (heap_lt HX.out)).trans HX.out))
    | (go_at_call 5; refine (H5.out _ (HT.out.lt B.out) (ints_lt7 HJ.out B.out)).mono ?_; clear H5; rintro e w2 ⟨bt, rfl, hbt, hb⟩; have BN := Lib.hid (hb0to B.out hb); clear B hb r0 r1 r2; have B := BN; clear BN; obtain ⟨r0, r1, r2⟩ := box3 ((B.out.block _ (heap_lt HX.out)).trans HX.out); obtain rfl := hbt.2 HTR.out; clear hbt)
    | (go_at_call 6; refine (H6.out _ (HT.out.lt B.out) (ints_lt7 HI.out B.out)).mono ?_; clear H6; rintro e w3 ⟨bt, rfl, hbt, hb⟩; have BN := Lib.hid (hb0to B.out hb); clear B hb r0 r1 r2; have B := BN; clear BN; obtain ⟨r0, r1, r2⟩ := box3 ((B.out.block _ (heap_lt HX.out)).trans HX.out); obtain rfl := hbt.2 HCT.out; clear hbt))
  go_wp2_with (fail)
  clear r0 r1 r2
  go_loopw [5, 6, 7, 8, 9] (fun pv mv lv hv iv wr => ∃ (k m : Nat) (z : Int), k ≤ t.length ∧ pv = .int .i64 z ∧ mv = .int .i64 m ∧ iv = .int .i64 k ∧ Hid (z = sumTo (lotL t c x k) m) ∧ Hid (m = (lotL t c x k).length) ∧ Hid (TwoK W0.heap.size lv hv (lotL t c x k) (intsN (List.range m)) W0 wr)) (fun _ _ _ _ iv _ => t.length - (intOf iv).toNat)
  case atStart => exact ⟨0, 0, 0, Nat.zero_le _, rfl, rfl, rfl, Lib.hid rfl, Lib.hid rfl, Lib.hid ⟨B.out, ints_nil _ _, ints_nil _ _, fun g e => by cases e⟩⟩
  case round =>
    clear B
    obtain ⟨k, m, z, hk, rfl, rfl, rfl, HZ, HM, K⟩ := hrel
    have B := Lib.hid K.out.B
    obtain ⟨r0, r1, r2⟩ := box3 ((B.out.block _ (heap_lt HX.out)).trans HX.out)
    have hml := lotL_len t c x k
    have tl := HOK.out.n
    by_cases hlt : k < t.length
    · obtain ⟨p, hp⟩ : ∃ p, t[k]? = some p := ⟨_, List.getElem?_eq_getElem hlt⟩
      obtain ⟨y, hy⟩ : ∃ y, x[k]? = some y := ⟨_, List.getElem?_eq_getElem (by rw [HXL.out]; exact hlt)⟩
      have hyb := HXR.out y (List.mem_of_getElem? hy)
      have hpb := (HOK.out.ok k p hp).2.2.2
      have H8 := Lib.hid (fun W hT hI => isSold_any A0 c0 t HOK.out.n A2 c2 c HCL.out k hlt W hT hI)
      cases hs : Cu.soldB t c k
      · rw [hs] at H8
        have HLN := Lib.hid (lotL_no (x := x) hs)
        clear hp hy
        go_wp2_with (go_at_call 8; refine (H8.out _ (HT.out.lt B.out) (ints_lt7 HI.out B.out)).mono ?_; clear H8; rintro e w8 ⟨rfl, hb⟩; have K8 := Lib.hid (K.out.next hb K.out.B.size); clear K; have BN := Lib.hid (hb0to B.out hb); clear B hb r0 r1 r2; have B := BN; clear BN; obtain ⟨r0, r1, r2⟩ := box3 ((B.out.block _ (heap_lt HX.out)).trans HX.out))
        go_roundw
        case rel => exact ⟨k + 1, m, z, by omega, rfl, rfl, by go_num, Lib.hid (by rw [HLN.out]; exact HZ.out), Lib.hid (by rw [HLN.out]; exact HM.out), Lib.hid (by rw [HLN.out]; exact K8.out)⟩
        case measure => simp [intOf]; omega
      · rw [hs] at H8
        have hzs := (HZ.out).trans (show sumTo (lotL t c x k) m = sumE (eachP t c) x k by rw [HM.out]; exact lot_sum t c x k)
        have hzb := price_bd HOK.out (c := c) HXR.out k
        rw [← hzs] at hzb
        have hmm := HM.out
        have hmt : m ≤ 8 := by omega
        clear hzs hmm
        have HLN := Lib.hid (lotL_yes hp hy hs)
        have hv := mul_bd (k := p.pe) (v := y.toNat) hpb (by omega)
        rw [show ((y.toNat : Nat) : Int) = y by omega] at hv
        obtain ⟨bt, ot, hA, _, d1, d2, d3, d4, d5, d6⟩ := HT.out.at_ hp
        obtain ⟨bx, ox, hB, _, e3⟩ := HJ.out.at_ hy
        subst hA
        subst hB
        have HZN := Lib.hid (show z + p.pe * y = sumTo (lotL t c x (k + 1)) (m + 1) by rw [HLN.out, HZ.out, HM.out, sumTo_snoc])
        have HMN := Lib.hid (show m + 1 = (lotL t c x (k + 1)).length by rw [HLN.out, HM.out, List.length_append, List.length_singleton])
        obtain ⟨of, wl, wh, sl, sh, pe⟩ := p
        simp only at d6 HLN HZN hv hpb
        have HD6 := Lib.hid d6
        have HE3 := Lib.hid e3
        have hw1 : IntKind.i64.wrap (pe * y) = pe * y := IntWalk.i64_in _ (by omega)
        have hw2 : IntKind.i64.wrap (z + pe * y) = z + pe * y := IntWalk.i64_in _ (by omega)
        have hw3 : IntKind.i64.wrap ((m : Int) + 1) = (m : Int) + 1 := IntWalk.i64_in _ (by omega)
        have kx : k < x.length := by rw [HXL.out]; exact hlt
        have kx' : (k : Int) < (x.length : Int) := by omega
        have kt' : (k : Int) < (t.length : Int) := by omega
        have HRN := Lib.hid (show intsN (List.range (m + 1)) = intsN (List.range m) ++ [(m : Int)] by simp [intsN, List.range_succ])
        have HLL := Lib.hid (show (lotL t c x k).length ≤ 1000 by omega)
        have HLH := Lib.hid (show (intsN (List.range m)).length ≤ 1000 by rw [intsN_len, List.length_range]; omega)
        clear hp hy d1 d2 d3 d4 d5 d6 e3 hs hv
        go_upto_region 9 with (go_at_call 8; refine (H8.out _ (HT.out.lt B.out) (ints_lt7 HI.out B.out)).mono ?_; clear H8; rintro e w8 ⟨rfl, hb⟩; have K8 := Lib.hid (K.out.next hb K.out.B.size); have K8z := Lib.hid (Nat.le_trans K.out.B.size hb.size); clear K B hb r0 r1 r2)
        have HSO := Lib.hid (fun (w' : World) (hb : Below W0.heap.size W0 w') => show (fun w' : World => w'.cell? ⟨bt, ot + k * 6 + 5, none⟩ = some (.int .i64 pe) ∧ w'.cell? ⟨w.heap.size, 1, none⟩ = some (.slice (some ⟨bx, ox, none⟩) x.length c3) ∧ w'.cell? ⟨bx, ox + k, none⟩ = some (.int .i64 y)) w' from ⟨below_cell hb HD6.out, cell_of_heap (o := 1) ((hb.block _ (heap_lt HX.out)).trans HX.out) rfl, below_cell hb HE3.out⟩)
        have MD := K8.out.next (drew_belowS _) K8z.out
        have HZD : W0.heap.size ≤ w8.drew.heap.size := K8z.out
        refine wp_region_held_drew (S := (fun w' : World => w'.cell? ⟨bt, ot + k * 6 + 5, none⟩ = some (.int .i64 pe) ∧ w'.cell? ⟨w.heap.size, 1, none⟩ = some (.slice (some ⟨bx, ox, none⟩) x.length c3) ∧ w'.cell? ⟨bx, ox + k, none⟩ = some (.int .i64 y))) (by kernel_rfl) (HSO.out _ MD.B) (fun hHeld => ?_)
        change wpAnyH _ _ _ _ _ 20 #[false, false, false, false, false, false, false, false, false, false, false, false, false, false, false, false, false, false, false, false] _ _
        refine wpAnyH_take (i := 0) (oi := ⟨some 65, _, _, _, _, _⟩) (v := ?_) rfl (by kernel_rfl) (by kernel_rfl) (by kernel_rfl) (fun _ _ _ h => h) (Or.inl ⟨by rfl, ?_⟩) hHeld ?_
        rotate_left
        · intro w1 hSw; (try dsimp only at hSw); go_simp; (try with_reducible rfl)
        simp only [Act.put, List.setIfInBounds_toArray, List.set_cons_zero, List.set_cons_succ]
        change wpAnyH _ _ _ _ _ 19 #[true, false, false, false, false, false, false, false, false, false, false, false, false, false, false, false, false, false, false, false] _ _
        refine wpAnyH_take (i := 1) (oi := ⟨some 66, _, _, _, _, _⟩) (v := ?_) rfl (by kernel_rfl) (by kernel_rfl) (by kernel_rfl) (fun _ _ _ h => h) (Or.inl ⟨by rfl, ?_⟩) hHeld ?_
        rotate_left
        · intro w1 hSw; (try dsimp only at hSw); go_simp; (try with_reducible rfl)
        simp only [Act.put, List.setIfInBounds_toArray, List.set_cons_zero, List.set_cons_succ]
        change wpAnyH _ _ _ _ _ 18 #[true, true, false, false, false, false, false, false, false, false, false, false, false, false, false, false, false, false, false, false] _ _
        refine wpAnyH_take (i := 2) (oi := ⟨some 67, _, _, _, _, _⟩) (v := ?_) rfl (by kernel_rfl) (by kernel_rfl) (by kernel_rfl) (fun _ _ _ h => h) (Or.inl ⟨by rfl, ?_⟩) hHeld ?_
        rotate_left
        · intro w1 hSw; (try dsimp only at hSw); go_simp; (try with_reducible rfl)
        simp only [Act.put, List.setIfInBounds_toArray, List.set_cons_zero, List.set_cons_succ]
        change wpAnyH _ _ _ _ _ 17 #[true, true, true, false, false, false, false, false, false, false, false, false, false, false, false, false, false, false, false, false] _ _
        refine wpAnyH_take (i := 3) (oi := ⟨some 68, _, _, _, _, _⟩) (v := ?_) rfl (by kernel_rfl) (by kernel_rfl) (by kernel_rfl) (fun _ _ _ h => h) (Or.inl ⟨by rfl, ?_⟩) hHeld ?_
        rotate_left
        · intro w1 hSw; (try dsimp only at hSw); go_simp; (try with_reducible rfl)
        simp only [Act.put, List.setIfInBounds_toArray, List.set_cons_zero, List.set_cons_succ]
        change wpAnyH _ _ _ _ _ 16 #[true, true, true, true, false, false, false, false, false, false, false, false, false, false, false, false, false, false, false, false] _ _
        refine wpAnyH_take (i := 4) (oi := ⟨some 69, _, _, _, _, _⟩) (v := ?_) rfl (by kernel_rfl) (by kernel_rfl) (by kernel_rfl) (fun _ _ _ h => h) (Or.inl ⟨by rfl, ?_⟩) hHeld ?_
        rotate_left
        · intro w1 hSw; (try dsimp only at hSw); go_simp; (try with_reducible rfl)
        simp only [Act.put, List.setIfInBounds_toArray, List.set_cons_zero, List.set_cons_succ]
        change wpAnyH _ _ _ _ _ 15 #[true, true, true, true, true, false, false, false, false, false, false, false, false, false, false, false, false, false, false, false] _ _
        refine wpAnyH_take (i := 5) (oi := ⟨some 70, _, _, _, _, _⟩) (v := ?_) rfl (by kernel_rfl) (by kernel_rfl) (by kernel_rfl) (fun _ _ _ h => h) (Or.inl ⟨by rfl, ?_⟩) hHeld ?_
        rotate_left
        · intro w1 hSw; (try dsimp only at hSw); go_simp; (try with_reducible rfl)
        simp only [Act.put, List.setIfInBounds_toArray, List.set_cons_zero, List.set_cons_succ]
        change wpAnyH _ _ _ _ _ 14 #[true, true, true, true, true, true, false, false, false, false, false, false, false, false, false, false, false, false, false, false] _ _
        refine wpAnyH_take (i := 6) (oi := ⟨some 71, _, _, _, _, _⟩) (v := ?_) rfl (by kernel_rfl) (by kernel_rfl) (by kernel_rfl) (fun _ _ _ h => h) (Or.inl ⟨by rfl, ?_⟩) hHeld ?_
        rotate_left
        · intro w1 hSw; (try dsimp only at hSw); go_simp; (try with_reducible rfl)
        simp only [Act.put, List.setIfInBounds_toArray, List.set_cons_zero, List.set_cons_succ]
        change wpAnyH _ _ _ _ _ 13 #[true, true, true, true, true, true, true, false, false, false, false, false, false, false, false, false, false, false, false, false] _ _
        refine wpAnyH_take (i := 7) (oi := ⟨some 72, _, _, _, _, _⟩) (v := ?_) rfl (by kernel_rfl) (by kernel_rfl) (by kernel_rfl) (fun _ _ _ h => h) (Or.inl ⟨by rfl, ?_⟩) hHeld ?_
        rotate_left
        · intro w1 hSw; (try dsimp only at hSw); go_simp; (try with_reducible rfl)
        simp only [Act.put, List.setIfInBounds_toArray, List.set_cons_zero, List.set_cons_succ]
        change wpAnyH _ _ _ _ _ 12 #[true, true, true, true, true, true, true, true, false, false, false, false, false, false, false, false, false, false, false, false] _ _
        refine wpAnyH_take (i := 8) (oi := ⟨some 73, _, _, _, _, _⟩) (v := ?_) rfl (by kernel_rfl) (by kernel_rfl) (by kernel_rfl) (fun _ _ _ h => h) (Or.inl ⟨by rfl, ?_⟩) hHeld ?_
        rotate_left
        · intro w1 hSw; (try dsimp only at hSw); go_simp; (try with_reducible rfl)
        simp only [Act.put, List.setIfInBounds_toArray, List.set_cons_zero, List.set_cons_succ]
        change wpAnyH _ _ _ _ _ 11 #[true, true, true, true, true, true, true, true, true, false, false, false, false, false, false, false, false, false, false, false] _ _
        refine wpAnyH_take (i := 9) (oi := ⟨some 74, _, _, _, _, _⟩) (v := ?_) rfl (by kernel_rfl) (by kernel_rfl) (by kernel_rfl) (fun _ _ _ h => h) (Or.inl ⟨by rfl, ?_⟩) hHeld ?_
        rotate_left
        · intro w1 hSw; (try dsimp only at hSw); go_simp; (try with_reducible rfl)
        simp only [Act.put, List.setIfInBounds_toArray, List.set_cons_zero, List.set_cons_succ]
        change wpAnyH _ _ _ _ _ 10 #[true, true, true, true, true, true, true, true, true, true, false, false, false, false, false, false, false, false, false, false] _ _
        refine wpAnyH_take (i := 10) (oi := ⟨some 75, _, _, _, _, _⟩) (v := ?_) rfl (by kernel_rfl) (by kernel_rfl) (by kernel_rfl) (fun _ _ _ h => h) (Or.inl ⟨by rfl, ?_⟩) hHeld ?_
        rotate_left
        · intro w1 hSw; (try dsimp only at hSw); go_simp; (try with_reducible rfl)
        simp only [Act.put, List.setIfInBounds_toArray, List.set_cons_zero, List.set_cons_succ]
        change wpAnyH _ _ _ _ _ 9 #[true, true, true, true, true, true, true, true, true, true, true, false, false, false, false, false, false, false, false, false] _ _
        refine wpAnyH_take (i := 11) (oi := ⟨some 76, _, _, _, _, _⟩) (v := ?_) rfl (by kernel_rfl) (by kernel_rfl) (by kernel_rfl) (fun _ _ _ h => h) (Or.inl ⟨by rfl, ?_⟩) hHeld ?_
        rotate_left
        · intro w1 hSw; (try dsimp only at hSw); go_simp; (try with_reducible rfl)
        simp only [Act.put, List.setIfInBounds_toArray, List.set_cons_zero, List.set_cons_succ]
        change wpAnyH _ _ _ _ _ 8 #[true, true, true, true, true, true, true, true, true, true, true, true, false, false, false, false, false, false, false, false] _ _
        refine wpAnyH_take (i := 14) (oi := ⟨some 79, _, _, _, _, _⟩) (v := ?_) rfl (by kernel_rfl) (by kernel_rfl) (by kernel_rfl) (fun _ _ _ h => h) (Or.inl ⟨by rfl, ?_⟩) hHeld ?_
        rotate_left
        · intro w1 hSw; (try dsimp only at hSw); go_simp; (try with_reducible rfl)
        simp only [Act.put, List.setIfInBounds_toArray, List.set_cons_zero, List.set_cons_succ]
        change wpAnyH _ _ _ _ _ 7 #[true, true, true, true, true, true, true, true, true, true, true, true, false, false, true, false, false, false, false, false] _ _
        refine wpAnyH_take (i := 15) (oi := ⟨some 80, _, _, _, _, _⟩) (v := ?_) rfl (by kernel_rfl) (by kernel_rfl) (by kernel_rfl) (fun _ _ _ h => h) (Or.inl ⟨by rfl, ?_⟩) hHeld ?_
        rotate_left
        · intro w1 hSw; (try dsimp only at hSw); go_simp; (try with_reducible rfl)
        simp only [Act.put, List.setIfInBounds_toArray, List.set_cons_zero, List.set_cons_succ]
        change wpAnyH _ _ _ _ _ 6 #[true, true, true, true, true, true, true, true, true, true, true, true, false, false, true, true, false, false, false, false] _ _
        refine wpAnyH_fourR (i1 := 12) (i2 := 13) (i3 := 16) (i4 := 17) (n := 2) (J9 W0.heap.size u7 u8 (lotL t c x k) (intsN (List.range m)) (pe * y) (m : Int) W0) (fun b1 b2 b3 b4 => #[true, true, true, true, true, true, true, true, true, true, true, true, b1, b2, true, true, b3, b4, false, false]) (fun a0 x1 x2 x3 x4 => (((a0.put (some 77) x1).put (some 78) x2).put (some 81) x3).put (some 82) x4) rfl
          (fun _ _ _ _ => ⟨rfl, rfl, rfl, rfl⟩) (fun b1 b2 b3 b4 => (!b2 || b1) && (!b4 || (b3 && b2))) (fun b1 b2 b3 b4 _ _ _ _ _ hJ => by have h2 := hJ.o2; have h4 := hJ.o4; cases b1 <;> cases b2 <;> cases b3 <;> cases b4 <;> simp_all) (fun b1 b2 b3 b4 hV => ?_) ⟨u77, u78, u81, u82, rfl, ?_⟩ ?_ ?_ ?_ ?_ ?_ hHeld
        · cases b1 <;> cases b2 <;> cases b3 <;> cases b4 <;> first | exact .inl rfl | exact absurd hV (by decide) | exact .inr ⟨by kernel_rfl, by kernel_rfl⟩
        · exact ⟨MD, HZD, fun e => (by cases e), fun e => (by cases e), fun e => (by cases e), fun e => (by cases e)⟩
        · intro b2 b3 b4 x1 x2 x3 x4 w1 _ hS1 hJ
          simp only [Act.put, List.setIfInBounds_toArray, List.set_cons_zero, List.set_cons_succ]
          refine wpOp_step (o := ⟨some 77, _, _, _, _, _⟩) rfl (fun K hK => ?_)
          have HJ9 := Lib.hid hJ
          have HK := Lib.hid hK
          clear hJ hK
          go_simp
          exact HK.out _ _ ⟨HSO.out _ HJ9.out.one.M.B, _, rfl, HJ9.out.one⟩
        · intro b1 b3 b4 x1 x2 x3 x4 w1 hrd hS1 hJ
          obtain rfl : b1 = true := by
            cases b1
            · exact (not_ready (by cases b3 <;> cases b4 <;> kernel_rfl) hrd).elim
            · rfl
          simp only [Act.put, List.setIfInBounds_toArray, List.set_cons_zero, List.set_cons_succ]
          refine wpOp_step (o := ⟨some 78, _, _, _, _, _⟩) rfl (fun K hK => ?_)
          have HJ9 := Lib.hid hJ
          have HK := Lib.hid hK
          clear hJ hK hrd
          obtain ⟨z, rfl, hc⟩ := HJ9.out.c rfl rfl
          refine step_appD (by rfl) (.tmp 65) (.tmp 77) (by rfl) W0.heap.size W0.heap.size u7 (lotL t c x k) (pe * y) (by rfl) HJ9.out.M.lo ⟨z, 0, none⟩ 1 (by rfl) hc HLL.out HJ9.out.z (Nat.le_refl _) ?_
          intro v7 w7 h1 hb hg hw
          exact HK.out _ _ ⟨HSO.out _ (HJ9.out.two h1 hb hg hw).M.B, v7, rfl, HJ9.out.two h1 hb hg hw⟩
        · intro b1 b2 b4 x1 x2 x3 x4 w1 _ hS1 hJ
          simp only [Act.put, List.setIfInBounds_toArray, List.set_cons_zero, List.set_cons_succ]
          refine wpOp_step (o := ⟨some 81, _, _, _, _, _⟩) rfl (fun K hK => ?_)
          have HJ9 := Lib.hid hJ
          have HK := Lib.hid hK
          clear hJ hK
          go_simp
          exact HK.out _ _ ⟨HSO.out _ HJ9.out.three.M.B, _, rfl, HJ9.out.three⟩
        · intro b1 b2 b3 x1 x2 x3 x4 w1 hrd hS1 hJ
          obtain rfl : b3 = true := by
            cases b3
            · exact (not_ready (by cases b1 <;> cases b2 <;> kernel_rfl) hrd).elim
            · rfl
          obtain rfl : b2 = true := by
            cases b2
            · exact (not_ready (by cases b1 <;> kernel_rfl) hrd).elim
            · rfl
          simp only [Act.put, List.setIfInBounds_toArray, List.set_cons_zero, List.set_cons_succ]
          refine wpOp_step (o := ⟨some 82, _, _, _, _, _⟩) rfl (fun K hK => ?_)
          have HJ9 := Lib.hid hJ
          have HK := Lib.hid hK
          clear hJ hK hrd
          obtain ⟨z, rfl, hc, -⟩ := HJ9.out.d rfl rfl
          refine step_appD (by rfl) (.tmp 79) (.tmp 81) (by rfl) W0.heap.size W0.heap.size u8 (intsN (List.range m)) (m : Int) (by rfl) HJ9.out.M.hi ⟨z, 0, none⟩ 1 (by rfl) hc HLH.out HJ9.out.z (Nat.le_refl _) ?_
          intro v7 w7 h1 hb hg hw
          exact HK.out _ _ ⟨HSO.out _ (HJ9.out.four h1 hb hg hw).M.B, v7, rfl, HJ9.out.four h1 hb hg hw⟩
        · intro x1 x2 x3 x4 w1 hS1 hJ
          have K9 := Lib.hid hJ.M
          have K9z := Lib.hid hJ.z
          clear hJ
          simp only [Act.put, List.setIfInBounds_toArray, List.set_cons_zero, List.set_cons_succ]
          refine wpAnyH_ready (rs := [18]) (by kernel_rfl) (by simp) (AllReadyH.cons (o := ⟨some 7, _, _, _, _, _⟩) rfl (fun K hK => ?_) AllReadyH.nil)
          have HK := Lib.hid hK
          clear hK
          go_simp
          refine HK.out.out _ _ (HSO.out _ K9.out.B) (fun hHeld2 => ?_)
          simp only [Act.put, List.setIfInBounds_toArray, List.set_cons_zero, List.set_cons_succ]
          change wpAnyH _ _ _ _ _ 1 #[true, true, true, true, true, true, true, true, true, true, true, true, true, true, true, true, true, true, true, false] _ _
          refine wpAnyH_ready (rs := [19]) (by kernel_rfl) (by simp) (AllReadyH.cons (o := ⟨some 8, _, _, _, _, _⟩) rfl (fun K hK => ?_) AllReadyH.nil)
          have HK2 := Lib.hid hK
          clear HK hK
          go_simp
          refine HK2.out.out _ _ (HSO.out _ K9.out.B) (fun hHeld3 => wpAnyH_done (by kernel_rfl) ?_ _)
          clear HK2
          obtain ⟨g1, g2, g3⟩ := HSO.out _ K9.out.B
          go_upto_region 10 with (fail)
          go_region_held3 (fun w' : World => w'.cell? ⟨bt, ot + k * 6 + 5, none⟩ = some (.int .i64 pe) ∧ w'.cell? ⟨w.heap.size, 1, none⟩ = some (.slice (some ⟨bx, ox, none⟩) x.length c3) ∧ w'.cell? ⟨bx, ox + k, none⟩ = some (.int .i64 y)) (first | go_keep) (fail)
          go_wp2_with (fail)
          go_roundw
          case rel => exact ⟨k + 1, m + 1, z + pe * y, by omega, rfl, by go_num, by go_num, HZN, HMN, Lib.hid ⟨hb0to K9.out.B (drew_belowS _), by rw [HLN.out]; exact K9.out.lo.below_ (drew_belowS _) (Nat.le_refl _), by rw [HRN.out]; exact K9.out.hi.below_ (drew_belowS _) (Nat.le_refl _), K9.out.ne⟩⟩
          case measure => simp [intOf]; omega
    · obtain rfl : k = t.length := by omega
      obtain ⟨Wf, rfl⟩ : ∃ x : World, x = wr := ⟨_, rfl⟩
      have hlf := low_facts HOK.out HTR.out (eachP_bd HOK.out c)
      have hhf := high_facts HOK.out HTR.out (eachP_bd HOK.out c)
      have hps := HZ.out.trans (show sumTo (lotL t c x t.length) m = sumE (eachP t c) x t.length by rw [HM.out]; exact lot_sum t c x t.length)
      have hpb := price_bd HOK.out (c := c) HXR.out t.length
      rw [← hps] at hlf hhf hpb
      have hm8 : m ≤ 8 := by have := HM.out; omega
      clear hps hml hlt hk
      by_cases h3 : 3 < m
      · have g1 : decide (3 < m) = true := decide_eq_true h3
        have g2 : decide ((3 : Int) < (m : Int)) = true := decide_eq_true (by omega)
        have g3 : (3 : Int) < (m : Int) := by omega
        go_wp2_with (go_at_call 7; refine (lots_any _).mono ?_; rintro e w9 ⟨rfl, hb⟩; have BN := Lib.hid (hb0to B.out hb); clear B hb r0 r1 r2; have B := BN; clear BN; obtain ⟨r0, r1, r2⟩ := box3 ((B.out.block _ (heap_lt HX.out)).trans HX.out))
        go_ret
        exact ⟨rfl, hb0to HBW.out B.out⟩
      · have g1 : decide (3 < m) = false := decide_eq_false h3
        have g2 : decide ((3 : Int) < (m : Int)) = false := decide_eq_false (by omega)
        have g3 : ¬ (3 : Int) < (m : Int) := by omega
        have hm3 : m ≤ 3 := by omega
        clear h3
        obtain ⟨Al, cl, rfl, -, -, hil⟩ := ints_slice K.out.lo
        have ho := K.out.hi
        obtain ⟨Ab, cb, rfl, -, -, -⟩ := ints_slice K.out.hi
        have BW := Lib.hid K.out.B
        clear K
        obtain ⟨pl, hpl⟩ : ∃ l, lotL t c x t.length = l := ⟨_, rfl⟩
        rw [hpl] at HZ HM hil ⊢
        rw [show (intsN (List.range m)).length = m by rw [intsN_len, List.length_range]] at ho ⊢
        rw [← HM.out]
        have HP := Lib.hid hil
        have HO := Lib.hid ho
        have HPL := Lib.hid HM.out
        clear hpl hil ho HM
        have H9 := Lib.hid (fun W => emptyFair_any m (by omega) ((m : Int) + 1) W)
        have hw3 : IntKind.i64.wrap ((m : Int) + 1) = (m : Int) + 1 := IntWalk.i64_in _ (by omega)
        go_upto_region 15 with (go_at_call 9; refine (H9.out _).mono ?_; clear H9; rintro e w5 ⟨⟨⟨k1, k2, k3, k4, k5, k6⟩, A', c', rfl, hc⟩, hb⟩; have M := Lib.hid (HIn.new (W0 := Wf) hc (Nat.le_refl _) hb); clear hb hc)
        clear r0 r1 r2 B
        go_wp2
        go_loopw [11] (fun i wr => ∃ (k : Nat) (Aq : Option Addr) (cq : Nat), k ≤ m ∧ i = .int .i64 k ∧ Hid (HIn Wf w5.heap.size ⟨k1, k2, k3, k4, k5, k6⟩ A' c' m ((m : Int) + 1) Aq cq (lotsQ pl k) wr)) (fun i _ => m - (intOf i).toNat)
        case atStart => exact ⟨0, none, 0, Nat.zero_le _, rfl, M⟩
        case round =>
          clear M
          obtain ⟨k, Aq, cq, hk, rfl, M⟩ := hrel
          by_cases hlt : k < m
          · have kd : (k : Int) < (m : Int) := by omega
            obtain ⟨y, hy⟩ : ∃ y, pl[k]? = some y := ⟨_, List.getElem?_eq_getElem (by have := HPL.out; omega)⟩
            have HGY := Lib.hid (show pl.getD k 0 = y by rw [List.getD_eq_getElem?_getD, hy]; rfl)
            obtain ⟨bp, op, eA, hbp, d1⟩ := HP.out.at_ hy
            subst eA
            have kp : k < m := hlt
            have kp' : (k : Int) < (m : Int) := by omega
            have HD1 := Lib.hid d1
            clear hy d1
            go_upto_region 18 with (fail)
            obtain ⟨q, hqe⟩ : ∃ q, lotsQ pl k = q := ⟨_, rfl⟩
            have hql : q.length ≤ 1000 := by rw [← hqe, lotsQ_len]; omega
            rw [hqe] at M
            have HQE := Lib.hid hqe
            have hzl := M.out.x.lt
            have hz0 := M.out.hz
            have z3 : ¬ w5.heap.size = bp := by omega
            have z4 : ¬ bp = w5.heap.size := by omega
            have r7 : wr.cell? ⟨w5.heap.size, 7, none⟩ = some (.slice Aq q.length cq) := M.out.x.cells.2.2.2.2.2.2.2
            have hbX : Below wr.heap.size wr (((wr.alloc (.cells #[.int .i64 (k : Int)] 3)).alloc (.cells #[.int .i64 (k : Int), .slice (some ⟨wr.heap.size, 0, none⟩) 1 1, .int .i64 y] 44)).drew) := hb0to (hb0to (al_below wr _) (al_below _ _)) (drew_belowS _)
            have HMX := Lib.hid (M.out.next hbX)
            have HQX := Lib.hid (M.out.q.belowO hbX)
            have HFR := Lib.hid (show Ints (((wr.alloc (.cells #[.int .i64 (k : Int)] 3)).alloc (.cells #[.int .i64 (k : Int), .slice (some ⟨wr.heap.size, 0, none⟩) 1 1, .int .i64 y] 44)).drew) 0 (.slice (some ⟨wr.heap.size, 0, none⟩) 1 1) [(k : Int)] from ints_fresh (heap_keep (heap_new1 wr (.cells #[.int .i64 (k : Int)] 3))))
            clear hqe hbX
            have BD := Lib.hid (show Below Wf.heap.size Wf wr.drew from hb0to M.out.B (drew_belowS wr))
            have BA := Lib.hid (show Below Wf.heap.size Wf (wr.alloc (.cells #[.int .i64 (k : Int)] 3)).drew from hb0to (hb0to M.out.B (al_below wr (.cells #[.int .i64 (k : Int)] 3))) (drew_belowS _))
            have BDD := Lib.hid HMX.out.B
            have HS2 := heap_new1 (wr.alloc (.cells #[.int .i64 (k : Int)] 3)) (.cells #[.int .i64 (k : Int), .slice (some ⟨wr.heap.size, 0, none⟩) 1 1, .int .i64 y] 44)
            have hsz : (wr.alloc (.cells #[.int .i64 (k : Int)] 3)).heap.size = wr.heap.size + 1 := by simp
            rw [hsz] at HS2
            have HS2' : (((wr.alloc (.cells #[.int .i64 (k : Int)] 3)).alloc (.cells #[.int .i64 (k : Int), .slice (some ⟨wr.heap.size, 0, none⟩) 1 1, .int .i64 y] 44)).drew).heap[wr.heap.size + 1]? = some (.cells #[.int .i64 (k : Int), .slice (some ⟨wr.heap.size, 0, none⟩) 1 1, .int .i64 y] 44) := HS2
            have HC0 := Lib.hid (cell_of_heap (o := 0) HS2' rfl)
            have HC1 := Lib.hid (cell_of_heap (o := 1) HS2' rfl)
            have HC2 := Lib.hid (cell_of_heap (o := 2) HS2' rfl)
            clear HS2 HS2' hsz
            have HSO := Lib.hid (fun (w' : World) (hb : Below Wf.heap.size Wf w') => show (fun w' : World => w'.cell? ⟨bp, op + k, none⟩ = some (.int .i64 y)) w' from below_cell hb HD1.out)
            refine wp_region_held_drew (S := (fun w' : World => w'.cell? ⟨bp, op + k, none⟩ = some (.int .i64 y))) (by kernel_rfl) (HSO.out _ BD.out) (fun hHeld => ?_)
            change wpAnyH _ _ _ _ _ 14 #[false, false, false, false, false, false, false, false, false, false, false, false, false, false] _ _
            refine wpAnyH_take (i := 0) (oi := ⟨some 110, _, _, _, _, _⟩) (v := ?_) rfl (by kernel_rfl) (by kernel_rfl) (by kernel_rfl) (fun _ _ _ h => h) (Or.inl ⟨by rfl, ?_⟩) hHeld ?_
            rotate_left
            · intro w1 hSw; (try dsimp only at hSw); go_simp; (try with_reducible rfl)
            simp only [Act.put, List.setIfInBounds_toArray, List.set_cons_zero, List.set_cons_succ]
            change wpAnyH _ _ _ _ _ 13 #[true, false, false, false, false, false, false, false, false, false, false, false, false, false] _ _
            refine wpAnyH_take (i := 2) (oi := ⟨some 112, _, _, _, _, _⟩) (v := ?_) rfl (by kernel_rfl) (by kernel_rfl) (by kernel_rfl) (fun _ _ _ h => h) (Or.inl ⟨by rfl, ?_⟩) hHeld ?_
            rotate_left
            · intro w1 hSw; (try dsimp only at hSw); go_simp; (try with_reducible rfl)
            simp only [Act.put, List.setIfInBounds_toArray, List.set_cons_zero, List.set_cons_succ]
            change wpAnyH _ _ _ _ _ 12 #[true, false, true, false, false, false, false, false, false, false, false, false, false, false] _ _
            refine wpAnyH_take (i := 3) (oi := ⟨some 113, _, _, _, _, _⟩) (v := ?_) rfl (by kernel_rfl) (by kernel_rfl) (by kernel_rfl) (fun _ _ _ h => h) (Or.inl ⟨by rfl, ?_⟩) hHeld ?_
            rotate_left
            · intro w1 hSw; (try dsimp only at hSw); go_simp; (try with_reducible rfl)
            simp only [Act.put, List.setIfInBounds_toArray, List.set_cons_zero, List.set_cons_succ]
            change wpAnyH _ _ _ _ _ 11 #[true, false, true, true, false, false, false, false, false, false, false, false, false, false] _ _
            refine wpAnyH_take (i := 5) (oi := ⟨some 115, _, _, _, _, _⟩) (v := ?_) rfl (by kernel_rfl) (by kernel_rfl) (by kernel_rfl) (fun _ _ _ h => h) (Or.inl ⟨by rfl, ?_⟩) hHeld ?_
            rotate_left
            · intro w1 hSw; (try dsimp only at hSw); go_simp; (try with_reducible rfl)
            simp only [Act.put, List.setIfInBounds_toArray, List.set_cons_zero, List.set_cons_succ]
            change wpAnyH _ _ _ _ _ 10 #[true, false, true, true, false, true, false, false, false, false, false, false, false, false] _ _
            refine wpAnyH_take (i := 6) (oi := ⟨some 116, _, _, _, _, _⟩) (v := ?_) rfl (by kernel_rfl) (by kernel_rfl) (by kernel_rfl) (fun _ _ _ h => h) (Or.inl ⟨by rfl, ?_⟩) hHeld ?_
            rotate_left
            · intro w1 hSw; (try dsimp only at hSw); go_simp; (try with_reducible rfl)
            simp only [Act.put, List.setIfInBounds_toArray, List.set_cons_zero, List.set_cons_succ]
            change wpAnyH _ _ _ _ _ 9 #[true, false, true, true, false, true, true, false, false, false, false, false, false, false] _ _
            refine wpAnyH_take (i := 7) (oi := ⟨some 117, _, _, _, _, _⟩) (v := ?_) rfl (by kernel_rfl) (by kernel_rfl) (by kernel_rfl) (fun _ _ _ h => h) (Or.inl ⟨by rfl, ?_⟩) hHeld ?_
            rotate_left
            · intro w1 hSw; (try dsimp only at hSw); go_simp; (try with_reducible rfl)
            simp only [Act.put, List.setIfInBounds_toArray, List.set_cons_zero, List.set_cons_succ]
            change wpAnyH _ _ _ _ _ 8 #[true, false, true, true, false, true, true, true, false, false, false, false, false, false] _ _
            refine wpAnyH_take (i := 8) (oi := ⟨some 118, _, _, _, _, _⟩) (v := ?_) rfl (by kernel_rfl) (by kernel_rfl) (by kernel_rfl) (fun _ _ _ h => h) (Or.inl ⟨by rfl, ?_⟩) hHeld ?_
            rotate_left
            · intro w1 hSw; (try dsimp only at hSw); go_simp; (try with_reducible rfl)
            simp only [Act.put, List.setIfInBounds_toArray, List.set_cons_zero, List.set_cons_succ]
            change wpAnyH _ _ _ _ _ 7 #[true, false, true, true, false, true, true, true, true, false, false, false, false, false] _ _
            refine wpAnyH_ready (rs := [1, 4]) (by kernel_rfl) (by simp) (AllReadyH.cons (o := ⟨some 111, _, _, _, _, _⟩) rfl (fun K hK => ?_) (AllReadyH.cons (o := ⟨some 114, _, _, _, _, _⟩) rfl (fun K hK => ?_) AllReadyH.nil))
            · have HK := Lib.hid hK
              clear hK
              go_simp
              refine HK.out.out _ _ (HSO.out _ BD.out) (fun hHeld => ?_)
              clear HK
              change wpAnyH _ _ _ _ _ 6 #[true, true, true, true, false, true, true, true, true, false, false, false, false, false] _ _
              refine wpAnyH_ready (rs := [4]) (by kernel_rfl) (by simp) (AllReadyH.cons (o := ⟨some 114, _, _, _, _, _⟩) rfl (fun K hK => ?_) AllReadyH.nil)
              have HK := Lib.hid hK
              clear hK
              go_simp
              refine HK.out.out _ _ (HSO.out _ BA.out) (fun hHeld => ?_)
              clear HK
              change wpAnyH _ _ _ _ _ 5 #[true, true, true, true, true, true, true, true, true, false, false, false, false, false] _ _
              refine wpAnyH_take (i := 9) (oi := ⟨some 119, _, _, _, _, _⟩) (v := ?_) rfl (by kernel_rfl) (by kernel_rfl) (by kernel_rfl) (fun _ _ _ h => h) (Or.inl ⟨by rfl, ?_⟩) hHeld ?_
              rotate_left
              · intro w1 hSw; (try dsimp only at hSw); go_simp; (try with_reducible rfl)
              simp only [Act.put, List.setIfInBounds_toArray, List.set_cons_zero, List.set_cons_succ]
              change wpAnyH _ _ _ _ _ 4 #[true, true, true, true, true, true, true, true, true, true, false, false, false, false] _ _
              refine wpAnyH_ready (rs := [10]) (by kernel_rfl) (by simp) (AllReadyH.cons (o := ⟨some 120, _, _, _, _, _⟩) rfl (fun K hK => ?_) AllReadyH.nil)
              have HK := Lib.hid hK
              clear hK
              go_simp
              refine HK.out.out _ _ (HSO.out _ BDD.out) (fun hHeld => ?_)
              clear HK
              change wpAnyH _ _ _ _ _ 3 #[true, true, true, true, true, true, true, true, true, true, true, false, false, false] _ _
              refine wpAnyH_ready (rs := [11]) (by kernel_rfl) (by simp) (AllReadyH.cons (o := ⟨some 121, _, _, _, _, _⟩) rfl (fun K hK => ?_) AllReadyH.nil)
              have HK := Lib.hid hK
              clear hK
              refine step_appQ (by rfl) (.tmp 111) (.tmp 120) (by rfl) InnOwn Wf.heap.size (.slice Aq q.length cq) q (by rfl) HQX.out (wr.heap.size + 1) 1 ⟨(k : Int), [(k : Int)], y⟩ (some ⟨wr.heap.size, 0, none⟩) 1 (by rfl) HC0.out HC1.out HC2.out hql (by have := M.out.B.size; simp; omega) (fun w' _ hk' => ⟨Ints.keepT HFR.out hk', fun u l hu => Ints.keepT hu hk'⟩) ?_
              intro v6 w6 ho6 hb6 hk6
              obtain ⟨A6, c6, e6, -, -, -⟩ := ho6.layO
              rw [List.length_append, List.length_singleton] at e6
              subst e6
              obtain ⟨hx6, M6⟩ := HMX.out.app ho6 hb6 hk6
              have HM6 := Lib.hid M6
              have B6 := Lib.hid (HMX.out.B.trans hb6)
              have r7 : w6.cell? ⟨w5.heap.size, 7, none⟩ = some (.slice Aq q.length cq) := hx6.cells.2.2.2.2.2.2.2
              have zf := frozen_of_heap hx6
              clear ho6 hb6 hk6 hx6 M6
              refine HK.out.out _ _ (HSO.out _ B6.out) (fun hHeld => ?_)
              clear HK
              simp only [Act.put, List.setIfInBounds_toArray, List.set_cons_zero, List.set_cons_succ]
              change wpAnyH _ _ _ _ _ 2 #[true, true, true, true, true, true, true, true, true, true, true, true, false, false] _ _
              refine wpAnyH_take (i := 12) (oi := ⟨some 122, _, _, _, _, _⟩) (v := ?_) rfl (by kernel_rfl) (by kernel_rfl) (by kernel_rfl) (fun _ _ _ h => h) (Or.inl ⟨by rfl, ?_⟩) hHeld ?_
              rotate_left
              · intro w1 hSw; (try dsimp only at hSw); go_simp; (try with_reducible rfl)
              simp only [Act.put, List.setIfInBounds_toArray, List.set_cons_zero, List.set_cons_succ]
              change wpAnyH _ _ _ _ _ 1 #[true, true, true, true, true, true, true, true, true, true, true, true, true, false] _ _
              refine wpAnyH_ready (rs := [13]) (by kernel_rfl) (by simp) (AllReadyH.cons (o := ⟨none, _, _, _, _, _⟩) rfl (fun K hK => ?_) AllReadyH.nil)
              have HK := Lib.hid hK
              clear hK
              go_simp
              refine HK.out.out _ _ (HSO.out _ HM6.out.B) (fun _ => wpAnyH_done (by kernel_rfl) ?_ _)
              clear HK
              go_wp2_with (fail)
              go_roundw
              case rel => exact ⟨k + 1, A6, c6, by omega, by go_num, Lib.hid (by rw [lotsQ_succ, HQE.out, HGY.out]; exact HM6.out)⟩
              case measure => simp [intOf]; omega
            · have HK := Lib.hid hK
              clear hK
              go_simp
              refine HK.out.out _ _ (HSO.out _ BA.out) (fun hHeld => ?_)
              clear HK
              change wpAnyH _ _ _ _ _ 6 #[true, false, true, true, true, true, true, true, true, false, false, false, false, false] _ _
              refine wpAnyH_take (i := 9) (oi := ⟨some 119, _, _, _, _, _⟩) (v := ?_) rfl (by kernel_rfl) (by kernel_rfl) (by kernel_rfl) (fun _ _ _ h => h) (Or.inl ⟨by rfl, ?_⟩) hHeld ?_
              rotate_left
              · intro w1 hSw; (try dsimp only at hSw); go_simp; (try with_reducible rfl)
              simp only [Act.put, List.setIfInBounds_toArray, List.set_cons_zero, List.set_cons_succ]
              change wpAnyH _ _ _ _ _ 5 #[true, false, true, true, true, true, true, true, true, true, false, false, false, false] _ _
              refine wpAnyH_ready (rs := [1, 10]) (by kernel_rfl) (by simp) (AllReadyH.cons (o := ⟨some 111, _, _, _, _, _⟩) rfl (fun K hK => ?_) (AllReadyH.cons (o := ⟨some 120, _, _, _, _, _⟩) rfl (fun K hK => ?_) AllReadyH.nil))
              · have HK := Lib.hid hK
                clear hK
                go_simp
                refine HK.out.out _ _ (HSO.out _ BA.out) (fun hHeld => ?_)
                clear HK
                change wpAnyH _ _ _ _ _ 4 #[true, true, true, true, true, true, true, true, true, true, false, false, false, false] _ _
                refine wpAnyH_ready (rs := [10]) (by kernel_rfl) (by simp) (AllReadyH.cons (o := ⟨some 120, _, _, _, _, _⟩) rfl (fun K hK => ?_) AllReadyH.nil)
                have HK := Lib.hid hK
                clear hK
                go_simp
                refine HK.out.out _ _ (HSO.out _ BDD.out) (fun hHeld => ?_)
                clear HK
                change wpAnyH _ _ _ _ _ 3 #[true, true, true, true, true, true, true, true, true, true, true, false, false, false] _ _
                refine wpAnyH_ready (rs := [11]) (by kernel_rfl) (by simp) (AllReadyH.cons (o := ⟨some 121, _, _, _, _, _⟩) rfl (fun K hK => ?_) AllReadyH.nil)
                have HK := Lib.hid hK
                clear hK
                refine step_appQ (by rfl) (.tmp 111) (.tmp 120) (by rfl) InnOwn Wf.heap.size (.slice Aq q.length cq) q (by rfl) HQX.out (wr.heap.size + 1) 1 ⟨(k : Int), [(k : Int)], y⟩ (some ⟨wr.heap.size, 0, none⟩) 1 (by rfl) HC0.out HC1.out HC2.out hql (by have := M.out.B.size; simp; omega) (fun w' _ hk' => ⟨Ints.keepT HFR.out hk', fun u l hu => Ints.keepT hu hk'⟩) ?_
                intro v6 w6 ho6 hb6 hk6
                obtain ⟨A6, c6, e6, -, -, -⟩ := ho6.layO
                rw [List.length_append, List.length_singleton] at e6
                subst e6
                obtain ⟨hx6, M6⟩ := HMX.out.app ho6 hb6 hk6
                have HM6 := Lib.hid M6
                have B6 := Lib.hid (HMX.out.B.trans hb6)
                have r7 : w6.cell? ⟨w5.heap.size, 7, none⟩ = some (.slice Aq q.length cq) := hx6.cells.2.2.2.2.2.2.2
                have zf := frozen_of_heap hx6
                clear ho6 hb6 hk6 hx6 M6
                refine HK.out.out _ _ (HSO.out _ B6.out) (fun hHeld => ?_)
                clear HK
                simp only [Act.put, List.setIfInBounds_toArray, List.set_cons_zero, List.set_cons_succ]
                change wpAnyH _ _ _ _ _ 2 #[true, true, true, true, true, true, true, true, true, true, true, true, false, false] _ _
                refine wpAnyH_take (i := 12) (oi := ⟨some 122, _, _, _, _, _⟩) (v := ?_) rfl (by kernel_rfl) (by kernel_rfl) (by kernel_rfl) (fun _ _ _ h => h) (Or.inl ⟨by rfl, ?_⟩) hHeld ?_
                rotate_left
                · intro w1 hSw; (try dsimp only at hSw); go_simp; (try with_reducible rfl)
                simp only [Act.put, List.setIfInBounds_toArray, List.set_cons_zero, List.set_cons_succ]
                change wpAnyH _ _ _ _ _ 1 #[true, true, true, true, true, true, true, true, true, true, true, true, true, false] _ _
                refine wpAnyH_ready (rs := [13]) (by kernel_rfl) (by simp) (AllReadyH.cons (o := ⟨none, _, _, _, _, _⟩) rfl (fun K hK => ?_) AllReadyH.nil)
                have HK := Lib.hid hK
                clear hK
                go_simp
                refine HK.out.out _ _ (HSO.out _ HM6.out.B) (fun _ => wpAnyH_done (by kernel_rfl) ?_ _)
                clear HK
                go_wp2_with (fail)
                go_roundw
                case rel => exact ⟨k + 1, A6, c6, by omega, by go_num, Lib.hid (by rw [lotsQ_succ, HQE.out, HGY.out]; exact HM6.out)⟩
                case measure => simp [intOf]; omega
              · have HK := Lib.hid hK
                clear hK
                go_simp
                refine HK.out.out _ _ (HSO.out _ BDD.out) (fun hHeld => ?_)
                clear HK
                change wpAnyH _ _ _ _ _ 4 #[true, false, true, true, true, true, true, true, true, true, true, false, false, false] _ _
                refine wpAnyH_ready (rs := [1]) (by kernel_rfl) (by simp) (AllReadyH.cons (o := ⟨some 111, _, _, _, _, _⟩) rfl (fun K hK => ?_) AllReadyH.nil)
                have HK := Lib.hid hK
                clear hK
                go_simp
                refine HK.out.out _ _ (HSO.out _ BDD.out) (fun hHeld => ?_)
                clear HK
                change wpAnyH _ _ _ _ _ 3 #[true, true, true, true, true, true, true, true, true, true, true, false, false, false] _ _
                refine wpAnyH_ready (rs := [11]) (by kernel_rfl) (by simp) (AllReadyH.cons (o := ⟨some 121, _, _, _, _, _⟩) rfl (fun K hK => ?_) AllReadyH.nil)
                have HK := Lib.hid hK
                clear hK
                refine step_appQ (by rfl) (.tmp 111) (.tmp 120) (by rfl) InnOwn Wf.heap.size (.slice Aq q.length cq) q (by rfl) HQX.out (wr.heap.size + 1) 1 ⟨(k : Int), [(k : Int)], y⟩ (some ⟨wr.heap.size, 0, none⟩) 1 (by rfl) HC0.out HC1.out HC2.out hql (by have := M.out.B.size; simp; omega) (fun w' _ hk' => ⟨Ints.keepT HFR.out hk', fun u l hu => Ints.keepT hu hk'⟩) ?_
                intro v6 w6 ho6 hb6 hk6
                obtain ⟨A6, c6, e6, -, -, -⟩ := ho6.layO
                rw [List.length_append, List.length_singleton] at e6
                subst e6
                obtain ⟨hx6, M6⟩ := HMX.out.app ho6 hb6 hk6
                have HM6 := Lib.hid M6
                have B6 := Lib.hid (HMX.out.B.trans hb6)
                have r7 : w6.cell? ⟨w5.heap.size, 7, none⟩ = some (.slice Aq q.length cq) := hx6.cells.2.2.2.2.2.2.2
                have zf := frozen_of_heap hx6
                clear ho6 hb6 hk6 hx6 M6
                refine HK.out.out _ _ (HSO.out _ B6.out) (fun hHeld => ?_)
                clear HK
                simp only [Act.put, List.setIfInBounds_toArray, List.set_cons_zero, List.set_cons_succ]
                change wpAnyH _ _ _ _ _ 2 #[true, true, true, true, true, true, true, true, true, true, true, true, false, false] _ _
                refine wpAnyH_take (i := 12) (oi := ⟨some 122, _, _, _, _, _⟩) (v := ?_) rfl (by kernel_rfl) (by kernel_rfl) (by kernel_rfl) (fun _ _ _ h => h) (Or.inl ⟨by rfl, ?_⟩) hHeld ?_
                rotate_left
                · intro w1 hSw; (try dsimp only at hSw); go_simp; (try with_reducible rfl)
                simp only [Act.put, List.setIfInBounds_toArray, List.set_cons_zero, List.set_cons_succ]
                change wpAnyH _ _ _ _ _ 1 #[true, true, true, true, true, true, true, true, true, true, true, true, true, false] _ _
                refine wpAnyH_ready (rs := [13]) (by kernel_rfl) (by simp) (AllReadyH.cons (o := ⟨none, _, _, _, _, _⟩) rfl (fun K hK => ?_) AllReadyH.nil)
                have HK := Lib.hid hK
                clear hK
                go_simp
                refine HK.out.out _ _ (HSO.out _ HM6.out.B) (fun _ => wpAnyH_done (by kernel_rfl) ?_ _)
                clear HK
                go_wp2_with (fail)
                go_roundw
                case rel => exact ⟨k + 1, A6, c6, by omega, by go_num, Lib.hid (by rw [lotsQ_succ, HQE.out, HGY.out]; exact HM6.out)⟩
                case measure => simp [intOf]; omega
          · have kd : ¬ (k : Int) < (m : Int) := by omega
            obtain rfl : k = m := by omega
            obtain ⟨We, rfl⟩ : ∃ x : World, x = wr := ⟨_, rfl⟩
            have hfn := hF_fn (P := k) (nb := (k : Int) + 1) (q := lotsQ pl k) (by omega) (by rw [lotsQ_len]; omega) (lots_bars (all := 0) hm3).1
            have HV1 := Lib.hid (fun h => lots_first (p := pl) hm3 h)
            obtain ⟨f, hfe⟩ : ∃ f, hF k ((k : Int) + 1) (lotsQ pl k) = f := ⟨_, rfl⟩
            have E := Lib.hid (FE.mk M.out.fair M.out.x M.out.B)
            have D := Lib.hid (Below.refl We.heap.size We)
            rw [hfe] at hfn HV1 E
            have HFE := Lib.hid hfe
            clear hfe
            have H10 := Lib.hid (fun F W hW => rcheckF_any F f hfn W hW)
            obtain ⟨s0, s1, s2, s3, s4, s5, s6, s7⟩ := E.out.x.cells; obtain ⟨r0, r1, r2⟩ := box3 (((hb0to BW.out E.out.B).block _ (heap_lt HX.out)).trans HX.out)
            cases hvf : validF f
            · rw [ckF_no hvf] at H10
              clear hvf hfn
              go_wp2_with (first
                | (go_at_call 10; refine (H10.out _ _ E.out.H).mono ?_; clear H10; rintro e wa ⟨rfl, hb⟩; have EN := Lib.hid (E.out.next hb); have DN := Lib.hid (hb0to D.out hb); clear E D hb s0 s1 s2 s3 s4 s5 s6 s7 r0 r1 r2; have E := EN; have D := DN; clear EN DN; obtain ⟨s0, s1, s2, s3, s4, s5, s6, s7⟩ := E.out.x.cells; obtain ⟨r0, r1, r2⟩ := box3 (((hb0to BW.out E.out.B).block _ (heap_lt HX.out)).trans HX.out))
                | (go_at_call 7; refine (lots_any _).mono ?_; rintro e w9 ⟨rfl, hb⟩; have EN := Lib.hid (E.out.next hb); have DN := Lib.hid (hb0to D.out hb); clear E D hb s0 s1 s2 s3 s4 s5 s6 s7 r0 r1 r2; have E := EN; have D := DN; clear EN DN; obtain ⟨s0, s1, s2, s3, s4, s5, s6, s7⟩ := E.out.x.cells; obtain ⟨r0, r1, r2⟩ := box3 (((hb0to BW.out E.out.B).block _ (heap_lt HX.out)).trans HX.out)))
              go_ret
              exact ⟨rfl, hb0to HBW.out (hb0to BW.out E.out.B)⟩
            · rw [ckF_yes hvf] at H10
              obtain ⟨e12, e13⟩ := HV1.out hvf
              rw [← HZ.out] at e12
              have H12 := Lib.hid (fun F W hW => Most_any F f hfn W hW)
              have H13 := Lib.hid (fun F W hW => Paid_any F f hfn W hW)
              rw [e12] at H12
              rw [e13] at H13
              clear e12 e13 hvf HV1
              have H11 := Lib.hid (fun A' c' h2 W hT hI => price_any A0 c0 t HOK.out A' c' c HCT.out (by have := HCL.out; omega) h2 W hT hI hlf.2.2)
              obtain ⟨lo, hlo⟩ : ∃ lo, lowF t (eachP t c) = lo := ⟨_, rfl⟩
              obtain ⟨hi, hhi⟩ : ∃ hi, highF t (eachP t c) = hi := ⟨_, rfl⟩
              rw [hlo] at H11 hlf
              rw [hhi] at H11 hhf
              clear hlo hhi
              have q1 : decide (z < lo) = false := decide_eq_false (by omega)
              have q2 : decide (hi < z) = false := decide_eq_false (by omega)
              clear hlf hhf
              go_upto_region 21 with (first
                | (go_at_call 10; refine (H10.out _ _ E.out.H).mono ?_; clear H10; rintro e wa ⟨rfl, hb⟩; have EN := Lib.hid (E.out.next hb); have DN := Lib.hid (hb0to D.out hb); clear E D hb s0 s1 s2 s3 s4 s5 s6 s7 r0 r1 r2; have E := EN; have D := DN; clear EN DN; obtain ⟨s0, s1, s2, s3, s4, s5, s6, s7⟩ := E.out.x.cells; obtain ⟨r0, r1, r2⟩ := box3 (((hb0to BW.out E.out.B).block _ (heap_lt HX.out)).trans HX.out)))
              obtain ⟨y0, -, -⟩ := box3 (((hb0to (hb0to BW.out E.out.B) (al_below wa (.cells #[] 3))).block _ (heap_lt HX.out)).trans HX.out)
              go_upto_region 22 with (first
                | (refine wpl_copyI (by rfl) _ _ (by rfl) wa.heap.size _ [] (by rfl) (ints_made _ _ (Nat.le_refl _)) A2 c2 c HA2.out (by rfl) (ints_lt7 HI.out (hb0to (hb0to BW.out E.out.B) (al_below _ _))) (by simp) (by have := HCL.out; omega) (by simp) ?_; intro v3 wb h1 h2; have hb : Below wa.heap.size wa wb := Below.trans (al_below _ _) h2; obtain ⟨A6, k6, rfl, -, hk6, hi6⟩ := ints_slice (show Ints wb wa.heap.size v3 c from h1); have I6 := Lib.hid hi6; clear h1 h2 hi6 y0; have EN := Lib.hid (E.out.next hb); have DN := Lib.hid (hb0to D.out hb); clear E D hb s0 s1 s2 s3 s4 s5 s6 s7 r0 r1 r2; have E := EN; have D := DN; clear EN DN; obtain ⟨s0, s1, s2, s3, s4, s5, s6, s7⟩ := E.out.x.cells; obtain ⟨r0, r1, r2⟩ := box3 (((hb0to BW.out E.out.B).block _ (heap_lt HX.out)).trans HX.out))
                | (go_at_call 11; refine (H11.out A6 k6 hk6 _ (HT.out.lt (hb0to BW.out E.out.B)) I6.out).mono ?_; clear H11; rintro e wc ⟨rfl, hb⟩; clear I6; have EN := Lib.hid (E.out.next hb); have DN := Lib.hid (hb0to D.out hb); clear E D hb s0 s1 s2 s3 s4 s5 s6 s7 r0 r1 r2; have E := EN; have D := DN; clear EN DN; obtain ⟨s0, s1, s2, s3, s4, s5, s6, s7⟩ := E.out.x.cells; obtain ⟨r0, r1, r2⟩ := box3 (((hb0to BW.out E.out.B).block _ (heap_lt HX.out)).trans HX.out)))
              have hq := heap_new1 wc (.cells #[.int .i64 lo, .int .i64 hi] 32)
              have hb := al_below wc (.cells #[.int .i64 lo, .int .i64 hi] 32)
              obtain ⟨Wq, hWq⟩ : ∃ Wq, wc.alloc (.cells #[.int .i64 lo, .int .i64 hi] 32) = Wq := ⟨_, rfl⟩
              rw [hWq] at hq hb ⊢
              clear hWq
              obtain ⟨qz, hqz⟩ : ∃ qz, wc.heap.size = qz := ⟨_, rfl⟩
              rw [hqz] at hq ⊢
              have HQ := Lib.hid hq
              clear hqz hq
              have EN := Lib.hid (E.out.next hb); have DN := Lib.hid (hb0to D.out hb); clear E D hb s0 s1 s2 s3 s4 s5 s6 s7 r0 r1 r2; have E := EN; have D := DN; clear EN DN; obtain ⟨s0, s1, s2, s3, s4, s5, s6, s7⟩ := E.out.x.cells; obtain ⟨r0, r1, r2⟩ := box3 (((hb0to BW.out E.out.B).block _ (heap_lt HX.out)).trans HX.out)
              go_upto_region 23 with (go_at_call 12; refine (H12.out _ _ E.out.H).mono ?_; clear H12; rintro e wd ⟨rfl, hb⟩; have HQN := Lib.hid ((hb.block _ (heap_lt HQ.out)).trans HQ.out); clear HQ; have HQ := HQN; clear HQN; have EN := Lib.hid (E.out.next hb); have DN := Lib.hid (hb0to D.out hb); clear E D hb s0 s1 s2 s3 s4 s5 s6 s7 r0 r1 r2; have E := EN; have D := DN; clear EN DN; obtain ⟨s0, s1, s2, s3, s4, s5, s6, s7⟩ := E.out.x.cells; obtain ⟨r0, r1, r2⟩ := box3 (((hb0to BW.out E.out.B).block _ (heap_lt HX.out)).trans HX.out))
              go_upto_region 24 with (go_at_call 13; refine (H13.out _ _ E.out.H).mono ?_; clear H13; rintro e wp ⟨rfl, hb⟩; have HQN := Lib.hid ((hb.block _ (heap_lt HQ.out)).trans HQ.out); clear HQ; have HQ := HQN; clear HQN; have EN := Lib.hid (E.out.next hb); have DN := Lib.hid (hb0to D.out hb); clear E D hb s0 s1 s2 s3 s4 s5 s6 s7 r0 r1 r2; have E := EN; have D := DN; clear EN DN; obtain ⟨s0, s1, s2, s3, s4, s5, s6, s7⟩ := E.out.x.cells; obtain ⟨r0, r1, r2⟩ := box3 (((hb0to BW.out E.out.B).block _ (heap_lt HX.out)).trans HX.out))
              have f0 := cell_of_heap (o := 0) HQ.out rfl
              have f1 := cell_of_heap (o := 1) HQ.out rfl
              go_upto_region 26 with (fail)
              clear f0 f1 HQ q1 q2
              have M26 := M.out.next D.out
              have hbX := al_below wp (.cells #[.int .i64 (k : Int), .slice Ab k cb, .int .i64 all] 44)
              have HMX := Lib.hid (M26.next hbX)
              have HQX := Lib.hid (M26.q.belowO hbX)
              have hbl : (lastB k all).bar.length = k := by
                show (intsN (List.range k)).length = k
                rw [intsN_len, List.length_range]
              have HFR := Lib.hid (show Ints (wp.alloc (.cells #[.int .i64 (k : Int), .slice Ab k cb, .int .i64 all] 44)) 0 (.slice Ab (lastB k all).bar.length cb) (lastB k all).bar by rw [hbl]; exact (HO.out.below_ (hb0to M26.B hbX) (Nat.le_refl _)).mono (Nat.zero_le _))
              have hc := heap_new1 wp (.cells #[.int .i64 (k : Int), .slice Ab k cb, .int .i64 all] 44)
              have HC0 := Lib.hid (show (wp.alloc (.cells #[.int .i64 (k : Int), .slice Ab k cb, .int .i64 all] 44)).cell? ⟨wp.heap.size, 0, none⟩ = some (.int .i64 (lastB k all).who) from cell_of_heap (o := 0) hc rfl)
              have HC1 := Lib.hid (show (wp.alloc (.cells #[.int .i64 (k : Int), .slice Ab k cb, .int .i64 all] 44)).cell? ⟨wp.heap.size, 1, none⟩ = some (.slice Ab (lastB k all).bar.length cb) by rw [hbl]; exact cell_of_heap (o := 1) hc rfl)
              have HC2 := Lib.hid (show (wp.alloc (.cells #[.int .i64 (k : Int), .slice Ab k cb, .int .i64 all] 44)).cell? ⟨wp.heap.size, 2, none⟩ = some (.int .i64 (lastB k all).pay) from cell_of_heap (o := 2) hc rfl)
              have hfq : f.q = lotsQ pl k := by rw [← HFE.out]; rfl
              rw [hfq] at s7
              have hzp : Wf.heap.size ≤ wp.heap.size := M26.B.size
              clear hc hbX hbl hfq M
              go_upto_region 27 with (refine wpl_appQ (by rfl) _ _ (by rfl) InnOwn Wf.heap.size (.slice Aq (lotsQ pl k).length cq) (lotsQ pl k) (by rfl) HQX.out wp.heap.size 1 (lastB k all) Ab cb (by rfl) HC0.out HC1.out HC2.out (by rw [lotsQ_len]; omega) (by simp; omega) (fun w' _ hk' => ⟨Ints.keepT HFR.out hk', fun u l hu => Ints.keepT hu hk'⟩) ?_; intro v6 w6 ho6 hb6 hk6; obtain ⟨A6', c6', e6, -, -, -⟩ := ho6.layO; rw [List.length_append, List.length_singleton] at e6; subst e6; obtain ⟨hx6, M6⟩ := HMX.out.app ho6 hb6 hk6; have HM6 := Lib.hid M6; have g7 : w6.cell? ⟨w5.heap.size, 7, none⟩ = some (.slice Aq (lotsQ pl k).length cq) := hx6.cells.2.2.2.2.2.2.2; have zf := frozen_of_heap hx6; clear ho6 hb6 hk6 hx6 M6)
              clear E D s0 s1 s2 s3 s4 s5 s6 s7 r0 r1 r2
              clear M26 HMX HQX HFR HC0 HC1 HC2 HFE
              obtain ⟨W7, hW7⟩ : ∃ x, w6.setCell ⟨w5.heap.size, 7, none⟩ (.slice A6' ((lotsQ pl k).length + 1) c6') = x := ⟨_, rfl⟩
              have M7 := HM6.out
              rw [hW7] at M7 ⊢
              clear hW7 HM6 g7 zf
              have hfn2 := hF_fn (P := k) (nb := (k : Int) + 1) (q := lotsQ pl k ++ [lastB k all]) (by omega) (by rw [List.length_append, lotsQ_len, List.length_singleton]; omega) (lots_bars (all := all) hm3).2
              have HV2 := Lib.hid (fun h => lots_second (p := pl) (all := all) hm3 h)
              obtain ⟨f2, hfe⟩ : ∃ f, hF k ((k : Int) + 1) (lotsQ pl k ++ [lastB k all]) = f := ⟨_, rfl⟩
              have E := Lib.hid (FE.mk M7.fair M7.x M7.B)
              have D := Lib.hid (Below.refl W7.heap.size W7)
              rw [hfe] at hfn2 HV2 E
              clear hfe M7
              have H10 := Lib.hid (fun F W hW => rcheckF_any F f2 hfn2 W hW)
              obtain ⟨s0, s1, s2, s3, s4, s5, s6, s7⟩ := E.out.x.cells; obtain ⟨r0, r1, r2⟩ := box3 (((hb0to BW.out E.out.B).block _ (heap_lt HX.out)).trans HX.out)
              cases hvf : validF f2
              · rw [ckF_no hvf] at H10
                clear hvf hfn2
                go_wp2_with (first
                  | (go_at_call 10; refine (H10.out _ _ E.out.H).mono ?_; clear H10; rintro e wa ⟨rfl, hb⟩; have EN := Lib.hid (E.out.next hb); have DN := Lib.hid (hb0to D.out hb); clear E D hb s0 s1 s2 s3 s4 s5 s6 s7 r0 r1 r2; have E := EN; have D := DN; clear EN DN; obtain ⟨s0, s1, s2, s3, s4, s5, s6, s7⟩ := E.out.x.cells; obtain ⟨r0, r1, r2⟩ := box3 (((hb0to BW.out E.out.B).block _ (heap_lt HX.out)).trans HX.out))
                  | (go_at_call 7; refine (lots_any _).mono ?_; rintro e w9 ⟨rfl, hb⟩; have EN := Lib.hid (E.out.next hb); have DN := Lib.hid (hb0to D.out hb); clear E D hb s0 s1 s2 s3 s4 s5 s6 s7 r0 r1 r2; have E := EN; have D := DN; clear EN DN; obtain ⟨s0, s1, s2, s3, s4, s5, s6, s7⟩ := E.out.x.cells; obtain ⟨r0, r1, r2⟩ := box3 (((hb0to BW.out E.out.B).block _ (heap_lt HX.out)).trans HX.out)))
                go_ret
                exact ⟨rfl, hb0to HBW.out (hb0to BW.out E.out.B)⟩
              · rw [ckF_yes hvf] at H10
                have e14 := HV2.out hvf
                rw [← HZ.out] at e14
                have H14 := Lib.hid (fun F W hW => Won_any F f2 hfn2 (k : Int) W hW)
                rw [e14] at H14
                obtain ⟨hwn, -, -⟩ := won_never all z
                obtain ⟨kk, hkk⟩ : ∃ kk, wonN all z = kk := ⟨_, rfl⟩
                rw [hkk] at H14 hwn
                clear e14 hvf HV2 hkk
                by_cases hza : z ≤ all
                · have h1 : ¬ kk = 2 := hwn.2 hza
                  have h2 : decide (kk = 2) = false := decide_eq_false h1
                  have h4 : (kk == 2) = false := beq_eq_false_iff_ne.2 h1
                  have h5 : (kk != 2) = true := bne_iff_ne.2 h1
                  have h6 : decide (z ≤ all) = true := decide_eq_true hza
                  clear hwn
                  go_wp2_with (first
                    | (go_at_call 10; refine (H10.out _ _ E.out.H).mono ?_; clear H10; rintro e wa ⟨rfl, hb⟩; have EN := Lib.hid (E.out.next hb); have DN := Lib.hid (hb0to D.out hb); clear E D hb s0 s1 s2 s3 s4 s5 s6 s7 r0 r1 r2; have E := EN; have D := DN; clear EN DN; obtain ⟨s0, s1, s2, s3, s4, s5, s6, s7⟩ := E.out.x.cells; obtain ⟨r0, r1, r2⟩ := box3 (((hb0to BW.out E.out.B).block _ (heap_lt HX.out)).trans HX.out))
                    | (go_at_call 14; refine (H14.out _ _ E.out.H).mono ?_; clear H14; rintro e wg ⟨rfl, hb⟩; have EN := Lib.hid (E.out.next hb); have DN := Lib.hid (hb0to D.out hb); clear E D hb s0 s1 s2 s3 s4 s5 s6 s7 r0 r1 r2; have E := EN; have D := DN; clear EN DN; obtain ⟨s0, s1, s2, s3, s4, s5, s6, s7⟩ := E.out.x.cells; obtain ⟨r0, r1, r2⟩ := box3 (((hb0to BW.out E.out.B).block _ (heap_lt HX.out)).trans HX.out))
                    | (go_at_call 7; refine (lots_any _).mono ?_; rintro e w9 ⟨rfl, hb⟩; have EN := Lib.hid (E.out.next hb); have DN := Lib.hid (hb0to D.out hb); clear E D hb s0 s1 s2 s3 s4 s5 s6 s7 r0 r1 r2; have E := EN; have D := DN; clear EN DN; obtain ⟨s0, s1, s2, s3, s4, s5, s6, s7⟩ := E.out.x.cells; obtain ⟨r0, r1, r2⟩ := box3 (((hb0to BW.out E.out.B).block _ (heap_lt HX.out)).trans HX.out)))
                  go_ret
                  exact ⟨rfl, hb0to HBW.out (hb0to BW.out E.out.B)⟩
                · obtain rfl : kk = 2 := Decidable.byContradiction fun e => hza (hwn.1 e)
                  have h6 : decide (z ≤ all) = false := decide_eq_false hza
                  clear hwn
                  go_wp2_with (first
                    | (go_at_call 10; refine (H10.out _ _ E.out.H).mono ?_; clear H10; rintro e wa ⟨rfl, hb⟩; have EN := Lib.hid (E.out.next hb); have DN := Lib.hid (hb0to D.out hb); clear E D hb s0 s1 s2 s3 s4 s5 s6 s7 r0 r1 r2; have E := EN; have D := DN; clear EN DN; obtain ⟨s0, s1, s2, s3, s4, s5, s6, s7⟩ := E.out.x.cells; obtain ⟨r0, r1, r2⟩ := box3 (((hb0to BW.out E.out.B).block _ (heap_lt HX.out)).trans HX.out))
                    | (go_at_call 14; refine (H14.out _ _ E.out.H).mono ?_; clear H14; rintro e wg ⟨rfl, hb⟩; have EN := Lib.hid (E.out.next hb); have DN := Lib.hid (hb0to D.out hb); clear E D hb s0 s1 s2 s3 s4 s5 s6 s7 r0 r1 r2; have E := EN; have D := DN; clear EN DN; obtain ⟨s0, s1, s2, s3, s4, s5, s6, s7⟩ := E.out.x.cells; obtain ⟨r0, r1, r2⟩ := box3 (((hb0to BW.out E.out.B).block _ (heap_lt HX.out)).trans HX.out))
                    | (go_at_call 7; refine (lots_any _).mono ?_; rintro e w9 ⟨rfl, hb⟩; have EN := Lib.hid (E.out.next hb); have DN := Lib.hid (hb0to D.out hb); clear E D hb s0 s1 s2 s3 s4 s5 s6 s7 r0 r1 r2; have E := EN; have D := DN; clear EN DN; obtain ⟨s0, s1, s2, s3, s4, s5, s6, s7⟩ := E.out.x.cells; obtain ⟨r0, r1, r2⟩ := box3 (((hb0to BW.out E.out.B).block _ (heap_lt HX.out)).trans HX.out)))
                  go_ret
                  exact ⟨rfl, hb0to HBW.out (hb0to BW.out E.out.B)⟩
end Go.Proofs.YtmbcpmnigggbaabGreat.Cu
namespace Go.Proofs.YtmbcpmnigggbaabGreat.Cu
open Go.Joins Go.ChangeShapes Go.WideShapes Go.ChangeAt Go.RowKit Go.Deep
section
variable {H : Type} {enc : TypeId × Value → H} {P : Program} {w : World} {base : Nat} {spare : Nat → Bool} {held : Bool}
theorem list_of {α : Type} {Q : Nat → α → Prop} : ∀ (n : Nat), (∀ i, i < n → ∃ x, Q i x) → ∃ l : List α, l.length = n ∧ ∀ i x, l[i]? = some x → Q i x
  | 0, _ => ⟨[], rfl, fun i x h => by simp at h⟩
  | n + 1, h => by
    obtain ⟨l, hl, hq⟩ := list_of n (fun i hi => h i (by omega))
    obtain ⟨x, hx⟩ := h n (by omega)
    refine ⟨l ++ [x], by simp [hl], fun i y hy => ?_⟩
    by_cases hi : i < n
    · rw [List.getElem?_append_left (by omega)] at hy; exact hq i y hy
    · have hil := (List.getElem?_eq_some_iff.1 hy).1
      rw [List.length_append, List.length_singleton] at hil
      obtain rfl : i = n := by omega
      rw [List.getElem?_append_right (by omega), hl] at hy
      simp at hy
      subst hy
      exact hx
theorem spot_none {W : World} {a : Addr} {v : Value} (h : W.cell? a = some v) : a.spot = none := by
  unfold World.cell? at h
  split at h
  · cases hs : a.spot with
    | none => rfl
    | some s => simp [hs] at h
  · cases h
/-- A struct of two numbers, by its cells. -/
theorem open_two {P : Program} {w : World} {base : Nat} {t : TypeId} {f0 f1 : Field} {u0 u1 : Value} {n : Nat} {y : DataW H × List MemPlace} (hs : P.underlying t = some (.struct #[f0, f1])) (hone : oneCellFields P #[f0, f1] = true) (h3 : f0.type = 3 ∧ f1.type = 3) (hu : P.underlying 3 = some (.int .i64))
    (h : DataW.trod enc P w base spare held n t [u0, u1] = some y) : ∃ a b : Int, u0 = .int .i64 a ∧ u1 = .int .i64 b := by
  obtain ⟨xs, n', _, _, _, hlen, hg⟩ := DataW.trod_struct hs h
  obtain ⟨o0, k0⟩ := hone_of hone 0 f0 rfl
  obtain ⟨o1, k1⟩ := hone_of hone 1 f1 rfl
  match xs, hlen with
  | [y0, y1], _ =>
    have h0 := hg 0 f0 rfl
    have h1 := hg 1 f1 rfl
    rw [h3.1] at h0
    rw [h3.2] at h1
    rw [h3.1] at k0
    rw [h3.2] at k1
    rw [o0, k0] at h0
    rw [o1, k1] at h1
    obtain ⟨i0, e0, _⟩ := DataW.trod_int hu (show DataW.trod enc P w base spare held n' 3 [u0] = some y0 from h0)
    obtain ⟨i1, e1, _⟩ := DataW.trod_int hu (show DataW.trod enc P w base spare held n' 3 [u1] = some y1 from h1)
    simp only [List.cons.injEq, and_true] at e0 e1
    exact ⟨i0, i1, e0, e1⟩
/-- The cells of a part. -/
theorem open_part {e n : Nat} {f0 f1 f2 f3 : Field} {y : DataW H × List MemPlace} {cs : List Value} (he : Tryz.prog.underlying e = some (.struct #[f0, f1, f2, f3]))
    (ho : f0.offset = 0 ∧ Tryz.prog.cellsOf f0.type = 1 ∧ f1.offset = 1 ∧ Tryz.prog.cellsOf f1.type = 2 ∧ f2.offset = 3 ∧ Tryz.prog.cellsOf f2.type = 2 ∧ f3.offset = 5 ∧ Tryz.prog.cellsOf f3.type = 1) (ht : f0.type = 3 ∧ f1.type = 32 ∧ f2.type = 32 ∧ f3.type = 3)
    (hl : cs.length = 6) (h : DataW.trod enc Tryz.prog w base spare held n e cs = some y) : ∃ p : CP, cs = [.int .i64 p.of, .int .i64 p.wl, .int .i64 p.wh, .int .i64 p.sl, .int .i64 p.sh, .int .i64 p.pe] := by
  match cs, hl with
  | [c0, c1, c2, c3, c4, c5], _ =>
    obtain ⟨xs, n', _, hx, _, hlen, hg⟩ := DataW.trod_struct he h
    obtain ⟨a0, k0, a1, k1, a2, k2, a3, k3⟩ := ho
    obtain ⟨t0, t1, t2, t3⟩ := ht
    match xs, hlen with
    | [y0, y1, y2, y3], _ =>
      have h0 : DataW.trod enc Tryz.prog w base spare held n' f0.type [c0] = some y0 := by simpa [a0, k0] using hg 0 f0 rfl
      have h1 : DataW.trod enc Tryz.prog w base spare held n' f1.type [c1, c2] = some y1 := by simpa [a1, k1] using hg 1 f1 rfl
      have h2 : DataW.trod enc Tryz.prog w base spare held n' f2.type [c3, c4] = some y2 := by simpa [a2, k2] using hg 2 f2 rfl
      have h3 : DataW.trod enc Tryz.prog w base spare held n' f3.type [c5] = some y3 := by simpa [a3, k3] using hg 3 f3 rfl
      rw [t0] at h0
      rw [t1] at h1
      rw [t2] at h2
      rw [t3] at h3
      obtain ⟨i0, e0, _⟩ := DataW.trod_int Tryz.underlying3 h0
      obtain ⟨i3, e3, _⟩ := DataW.trod_int Tryz.underlying3 h3
      obtain ⟨wl, wh, rfl, rfl⟩ := open_two Tryz.underlying32 (by kernel_rfl) ⟨rfl, rfl⟩ Tryz.underlying3 h1
      obtain ⟨sl, sh, rfl, rfl⟩ := open_two Tryz.underlying32 (by kernel_rfl) ⟨rfl, rfl⟩ Tryz.underlying3 h2
      simp only [List.cons.injEq, and_true] at e0 e3
      subst e0 e3
      exact ⟨⟨i0, wl, wh, sl, sh, i3⟩, rfl⟩
end
section
variable {H : Type} {enc : TypeId × Value → H} {W : World} {spare : Nat → Bool} {held : Bool}
set_option maxRecDepth 100000 in
/-- A table that came in. -/
theorem open_table {r : Reach} {b0 : Nat} {v : Value} {d : DataW H} {p : List MemPlace} (hsp : ∀ b, spare b = true) (hv : Value.okWide Tryz.prog W r b0 22 v) (h : DataW.Trod enc Tryz.prog W 0 spare held 22 v d p) :
    ∃ (A : Option Addr) (c : Nat) (t : List CP), v = .slice A t.length c ∧ (A = none → c = 0 ∧ t = []) ∧ t.length ≤ 9223372036854775807 ∧ TableAt W W.heap.size A t := by
  obtain ⟨a0, len, cap, rfl⟩ := okWide_slice Tryz.underlying22 hv
  obtain ⟨fuel, hf⟩ := h
  have hC : Tryz.prog.cellsOf 34 = 6 := by kernel_rfl
  rcases open_slice Tryz.underlying22 hf with ⟨hcs, _⟩ | ⟨a, len', cap', m, n, D, Pl, hcs, hb, hl, hm, hmm, hx, hi⟩
  · simp [Value.cells] at hcs
    obtain ⟨rfl, rfl, rfl⟩ := hcs
    exact ⟨none, 0, [], rfl, fun _ => ⟨rfl, rfl⟩, by simp, .inl rfl⟩
  · simp [Value.cells] at hcs
    obtain ⟨rfl, rfl, rfl⟩ := hcs
    rw [hsp, if_pos rfl] at hmm
    subst hmm
    obtain ⟨t, htl, hq⟩ := list_of (Q := fun i (x : CP) => W.cell? (a.add (i * 6)) = some (.int .i64 x.of) ∧ W.cell? (a.add (i * 6 + 1)) = some (.int .i64 x.wl) ∧ W.cell? (a.add (i * 6 + 2)) = some (.int .i64 x.wh) ∧ W.cell? (a.add (i * 6 + 3)) = some (.int .i64 x.sl) ∧ W.cell? (a.add (i * 6 + 4)) = some (.int .i64 x.sh) ∧ W.cell? (a.add (i * 6 + 5)) = some (.int .i64 x.pe)) len (fun i hil => by
      obtain ⟨cs', hc, ht'⟩ := hi i (by omega)
      rw [hC] at hc
      obtain ⟨_, hcl, hat⟩ := World.cells?_some hc
      obtain ⟨x, rfl⟩ := open_part Tryz.underlying34 ⟨rfl, by kernel_rfl, rfl, by kernel_rfl, rfl, by kernel_rfl, rfl, by kernel_rfl⟩ ⟨rfl, rfl, rfl, rfl⟩ hcl ht'
      have g0 := hat 0 (by omega)
      have g1 := hat 1 (by omega)
      have g2 := hat 2 (by omega)
      have g3 := hat 3 (by omega)
      have g4 := hat 4 (by omega)
      have g5 := hat 5 (by omega)
      rw [Go.Deep.add_add] at g0 g1 g2 g3 g4 g5
      exact ⟨x, g0, g1, g2, g3, g4, g5⟩)
    refine ⟨some a, _, t, by rw [htl], (fun h => by cases h), by unfold maxLen at hm; omega, ?_⟩
    by_cases h0 : t = []
    · exact .inl h0
    · have hlen : 0 < t.length := List.length_pos_iff.2 h0
      have hx0 : t[0]? = some t[0] := List.getElem?_eq_getElem hlen
      have hs := (hq 0 _ hx0).1
      have hs1 := spot_none hs
      have hlt := cell_lt hs
      obtain ⟨b, off, sp⟩ := a
      have hb2 : ((⟨b, off, sp⟩ : Addr).add (0 * 6)) = ⟨b, off, sp⟩ := by simp [Addr.add]
      rw [hb2] at hs1 hlt
      simp only at hs1 hlt
      subst hs1
      refine .inr ⟨b, off, rfl, hlt, fun i x hx => ?_⟩
      have := hq i x hx
      rw [addr_add, addr_add, addr_add, addr_add, addr_add, addr_add] at this
      exact this
/-- Numbers within a struct. -/
theorem open_ints_in {n : Nat} {v0 : Value} {y0 : DataW H × List MemPlace} (hsp : ∀ b, spare b = true) (h : DataW.trod enc Tryz.prog W 0 spare held n 23 [v0] = some y0) :
    ∃ (A : Option Addr) (c : Nat) (l : List Int), v0 = .slice A l.length c ∧ (A = none → c = 0 ∧ l = []) ∧ l.length ≤ 9223372036854775807 ∧ IntsAt W W.heap.size A l ∧ l.length ≤ c ∧ c ≤ 9223372036854775807 := by
  rcases Go.ChangeShapes.open_ints Tryz.underlying23 Tryz.underlying3 (by kernel_rfl) h with ⟨hcs, _⟩ | ⟨a, len', cap', zs, hcs, _, hl, hm, hz, _, hcell, _⟩
  · simp at hcs
    subst hcs
    exact ⟨none, 0, [], rfl, fun _ => ⟨rfl, rfl⟩, by simp, .inl rfl, by simp, by simp⟩
  · simp at hcs
    subst hcs
    rw [hsp, if_pos rfl] at hz
    have hlen : (zs.take len').length = len' := by rw [List.length_take]; omega
    refine ⟨some a, cap', zs.take len', by rw [hlen], (fun h => by cases h), by rw [hlen]; unfold maxLen at hm; omega, ?_, by omega, by unfold maxLen at hm; omega⟩
    by_cases h0 : zs.take len' = []
    · exact .inl h0
    · have hpos : 0 < zs.length := by
        have := List.length_pos_iff.2 h0
        omega
      obtain ⟨b, off, rfl, hc⟩ := Go.ints_at hcell hpos
      refine .inr ⟨b, off, rfl, ?_, fun i x hx => ?_⟩
      · have := cell_lt (hc 0 hpos)
        exact this
      · have hi := (List.getElem?_eq_some_iff.1 hx).1
        rw [hlen] at hi
        rw [List.getElem?_take_of_lt hi] at hx
        have := hc i (by omega)
        rw [List.getD_eq_getElem?_getD, hx] at this
        exact this
end
end Go.Proofs.YtmbcpmnigggbaabGreat.Cu
namespace Go.Proofs.YtmbcpmnigggbaabGreat.Cu
open Go.Joins Go.ChangeShapes Go.WideShapes Go.ChangeAt Go.RowKit Go.Deep
section
variable {H : Type} {enc : TypeId × Value → H} {W : World} {spare : Nat → Bool} {held : Bool}
set_option maxRecDepth 100000 in
/-- Lots that came in. -/
theorem open_lots {r : Reach} {b0 : Nat} {v : Value} {d : DataW H} {p : List MemPlace} (hsp : ∀ b, spare b = true) (hv : Value.okWide Tryz.prog W r b0 25 v) (h : DataW.Trod enc Tryz.prog W 0 spare held 25 v d p) :
    ∃ (A2 : Option Addr) (c2 : Nat) (c : List Int) (A3 : Option Addr) (c3 : Nat) (x : List Int) (all : Int), v = .agg #[.slice A2 c.length c2, .slice A3 x.length c3, .int .i64 all] ∧ (A2 = none → c2 = 0 ∧ c = []) ∧ IntsAt W W.heap.size A2 c ∧ IntsAt W W.heap.size A3 x := by
  obtain ⟨cs, rfl, hsz⟩ := okWide_struct Tryz.underlying25 hv
  obtain ⟨l⟩ := cs
  match l, hsz.trans (show Tryz.prog.cellsOf 25 = 3 by kernel_rfl) with
  | [c0, c1, c2], _ =>
    obtain ⟨fuel, hf⟩ := h
    obtain ⟨xs, n, _, hx, _, hlen, hg⟩ := DataW.trod_struct Tryz.underlying25 hf
    have hC : Tryz.prog.cellsOf 23 = 1 := by kernel_rfl
    have hC3 : Tryz.prog.cellsOf 3 = 1 := by kernel_rfl
    match xs, hlen with
    | [y0, y1, y2], _ =>
      have h0 : DataW.trod enc Tryz.prog W 0 spare held n 23 [c0] = some y0 := by simpa [Value.cells, hC] using hg 0 _ rfl
      have h1 : DataW.trod enc Tryz.prog W 0 spare held n 23 [c1] = some y1 := by simpa [Value.cells, hC] using hg 1 _ rfl
      have h2 : DataW.trod enc Tryz.prog W 0 spare held n 3 [c2] = some y2 := by simpa [Value.cells, hC3] using hg 2 _ rfl
      obtain ⟨A2, k2, c, rfl, a2, b2, m2, _, _⟩ := open_ints_in hsp h0
      obtain ⟨A3, k3, x, rfl, a3, b3, m3, _, _⟩ := open_ints_in hsp h1
      obtain ⟨all, e2, _⟩ := DataW.trod_int Tryz.underlying3 h2
      simp only [List.cons.injEq, and_true] at e2
      subst e2
      exact ⟨A2, k2, c, A3, k3, x, all, rfl, a2, m2, m3⟩
end
end Go.Proofs.YtmbcpmnigggbaabGreat.Cu
namespace Go.Proofs.YtmbcpmnigggbaabGreat
open Go.Joins Go.ChangeShapes Go.WideShapes Go.ChangeAt Go.RowKit Go.Deep

section
variable {H : Type} {enc : TypeId × Value → H} {P : Program} {w : World} {base : Nat} {spare : Nat → Bool} {held : Bool}
end

theorem list_of {α : Type} {Q : Nat → α → Prop} : ∀ (n : Nat), (∀ i, i < n → ∃ x, Q i x) → ∃ l : List α, l.length = n ∧ ∀ i x, l[i]? = some x → Q i x
  | 0, _ => ⟨[], rfl, fun i x h => by simp at h⟩
  | n + 1, h => by
    obtain ⟨l, hl, hq⟩ := list_of n (fun i hi => h i (by omega))
    obtain ⟨x, hx⟩ := h n (by omega)
    refine ⟨l ++ [x], by simp [hl], fun i y hy => ?_⟩
    by_cases hi : i < n
    · rw [List.getElem?_append_left (by omega)] at hy; exact hq i y hy
    · have hil := (List.getElem?_eq_some_iff.1 hy).1
      rw [List.length_append, List.length_singleton] at hil
      obtain rfl : i = n := by omega
      rw [List.getElem?_append_right (by omega), hl] at hy
      simp at hy
      subst hy
      exact hx
theorem spot_none {W : World} {a : Addr} {v : Value} (h : W.cell? a = some v) : a.spot = none := by
  unfold World.cell? at h
  split at h
  · cases hs : a.spot with
    | none => rfl
    | some s => simp [hs] at h
  · cases h
theorem laidOut : laidOutB Tryz.prog = true := by kernel_rfl
theorem own : ownKnob Tryz.prog.godebug = none := by kernel_rfl

section
variable {H : Type} {enc : TypeId × Value → H} {W : World} {spare : Nat → Bool} {held : Bool}
/-- Numbers within a struct. -/
theorem open_ints_in {n : Nat} {v0 : Value} {y0 : DataW H × List MemPlace} (hsp : ∀ b, spare b = true) (h : DataW.trod enc Tryz.prog W 0 spare held n 23 [v0] = some y0) :
    ∃ (A : Option Addr) (c : Nat) (l : List Int), v0 = .slice A l.length c ∧ (A = none → c = 0 ∧ l = []) ∧ l.length ≤ 9223372036854775807 ∧ IntsAt W W.heap.size A l ∧ l.length ≤ c ∧ c ≤ 9223372036854775807 := by
  rcases Go.ChangeShapes.open_ints Tryz.underlying23 Tryz.underlying3 (by kernel_rfl) h with ⟨hcs, _⟩ | ⟨a, len', cap', zs, hcs, _, hl, hm, hz, _, hcell, _⟩
  · simp at hcs
    subst hcs
    exact ⟨none, 0, [], rfl, fun _ => ⟨rfl, rfl⟩, by simp, .inl rfl, by simp, by simp⟩
  · simp at hcs
    subst hcs
    rw [hsp, if_pos rfl] at hz
    have hlen : (zs.take len').length = len' := by rw [List.length_take]; omega
    refine ⟨some a, cap', zs.take len', by rw [hlen], (fun h => by cases h), by rw [hlen]; unfold maxLen at hm; omega, ?_, by omega, by unfold maxLen at hm; omega⟩
    by_cases h0 : zs.take len' = []
    · exact .inl h0
    · have hpos : 0 < zs.length := by
        have := List.length_pos_iff.2 h0
        omega
      obtain ⟨b, off, rfl, hc⟩ := Go.ints_at hcell hpos
      refine .inr ⟨b, off, rfl, ?_, fun i x hx => ?_⟩
      · have := cell_lt (hc 0 hpos)
        exact this
      · have hi := (List.getElem?_eq_some_iff.1 hx).1
        rw [hlen] at hi
        rw [List.getElem?_take_of_lt hi] at hx
        have := hc i (by omega)
        rw [List.getD_eq_getElem?_getD, hx] at this
        exact this
end
end Go.Proofs.YtmbcpmnigggbaabGreat
