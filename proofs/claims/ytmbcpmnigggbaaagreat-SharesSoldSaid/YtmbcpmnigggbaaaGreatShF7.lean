import Derived.Test.YtmbcpmnigggbaaaGreatShF2
import Derived.Test.YtmbcpmnigggbaaaGreatShM7
import Derived.Deep.RegionHeld3
import Derived.Deep.RegionWith
import Derived.Deep.OwnRows
import Derived.Deep.DeepMust
namespace Go.Proofs.YtmbcpmnigggbaaaGreat.Sh
open Go.RowKit

theorem Ints.set_ {W : World} {base g cap n : Nat} {l : List Int} (h : Ints W base (.slice (some ⟨g, 0, none⟩) n cap) l) (k : Nat) (x : Int) : Ints (W.setCell ⟨g, k, none⟩ (.int .i64 x)) base (.slice (some ⟨g, 0, none⟩) n cap) (l.set k x) := by
  unfold Ints at *
  rw [List.length_set]
  rcases h.2 with ⟨e, _⟩ | ⟨g', cap', cur, e, hb, hg, h4, h5, h6, h7⟩
  · cases e
  · cases e
    refine ⟨by simp, .inr ⟨g, cap, cur.setIfInBounds k (.int .i64 x), rfl, hb, ?_, h4, h5, by simpa using h6, ?_⟩⟩
    · obtain ⟨hlt, hk2⟩ := Array.getElem?_eq_some_iff.1 hg
      show (W.heap.modify g _)[g]? = _
      rw [Array.getElem?_eq_getElem (by rw [Array.size_modify]; exact hlt), Array.getElem_modify_self, hk2]
      rfl
    · rw [Array.toList_setIfInBounds, List.take_set, h7, List.map_set]
theorem Ints.cells_ {W : World} {base g cap n : Nat} {l : List Int} (h : Ints W base (.slice (some ⟨g, 0, none⟩) n cap) l) {k : Nat} (hk : k < l.length) : W.cell? ⟨g, k, none⟩ = some (.int .i64 (at0 l k)) := by
  have hx : l[k]? = some (at0 l k) := by simp only [at0]; rw [List.getElem?_eq_getElem hk]; rfl
  have := World.ownsRow.cells h (g := g) rfl k (.int .i64 (at0 l k)) (by rw [List.getElem?_map, hx]; rfl)
  rw [addr_add, Nat.zero_add] at this
  exact this
theorem Ints.fr_ {W : World} {base g cap n : Nat} {l : List Int} (h : Ints W base (.slice (some ⟨g, 0, none⟩) n cap) l) (k : Nat) : W.frozen? ⟨g, k, none⟩ = false := by
  rcases h.2 with ⟨e, _⟩ | ⟨g', cap', cur, e, hb, hg, _⟩
  · cases e
  · cases e; simp [World.frozen?, hg]
theorem Ints.some_ {W : World} {base : Nat} {v : Value} {l : List Int} (h : Ints W base v l) (h1 : l ≠ []) : ∃ g cap, v = .slice (some ⟨g, 0, none⟩) l.length cap ∧ base ≤ g := by
  rcases h.2 with ⟨e, h0⟩ | ⟨g', cap', cur, e, hb, hg, _⟩
  · exact absurd (List.length_eq_zero_iff.1 h0) h1
  · exact ⟨g', cap', e, hb⟩
theorem gmin_min (f r : Int) : (f < r → gmin f r = f) ∧ (¬ f < r → gmin f r = r) := by
  unfold gmin
  constructor
  · intro h; rw [if_neg (by omega)]
  · intro h; split <;> omega
theorem lFix_take {l : List Node} {i : Nat} {x : Node} (hx : l[i]? = some x) (r : Int) : lFix r (l.take (i + 1)) = ((lFix r (l.take i)).1 ++ [gmin x.f (lFix r (l.take i)).2], (lFix r (l.take i)).2 - gmin x.f (lFix r (l.take i)).2) := by
  have : l.take (i + 1) = l.take i ++ [x] := by rw [List.take_add_one, hx]; rfl
  rw [this, lFix_snoc]

theorem lFix_at_bd (l : List Node) (hf : ∀ x ∈ l, 0 ≤ x.f) (P : Int) (h0 : 0 ≤ P) (h4 : P ≤ 400) (i : Nat) : 0 ≤ at0 (lFix P l).1 i ∧ at0 (lFix P l).1 i ≤ 400 := by
  obtain ⟨b1, _, b3⟩ := lFix_bd l hf P h0
  have hs := lFix_sum l P
  by_cases hi : i < (lFix P l).1.length
  · have hx : (lFix P l).1[i]? = some (lFix P l).1[i] := List.getElem?_eq_getElem hi
    have e : at0 (lFix P l).1 i = (lFix P l).1[i] := by simp only [at0]; rw [hx]; rfl
    have hm := List.getElem_mem hi
    have h1 := b3 _ hm
    have h2 := le_sum _ b3 _ hm
    rw [e]
    omega
  · have : at0 (lFix P l).1 i = 0 := by simp only [at0]; rw [List.getElem?_eq_none (by omega)]; rfl
    omega
/-- The nodes below a node, as nodes. -/
def kidL (ns : List Node) (m : Nat) : List Node := (kidsN ns m).map (nodeAt ns)
theorem kidL_len (ns : List Node) (m : Nat) : (kidL ns m).length = (kidsN ns m).length := by simp [kidL]
/-- At the j-th node below. -/
theorem kid_at {ns : List Node} {m j : Nat} (hj : j < (kidsN ns m).length) : ∃ x, (kidsN ns m)[j]? = some x ∧ x < ns.length ∧ (kidL ns m)[j]? = some (nodeAt ns x) ∧ nodeAt (kidL ns m) j = nodeAt ns x ∧ ((kidsN ns m).map (fun i : Nat => (i : Int)))[j]? = some (x : Int) := by
  obtain ⟨x, hx⟩ : ∃ x, (kidsN ns m)[j]? = some x := ⟨_, List.getElem?_eq_getElem hj⟩
  have h2 : (kidL ns m)[j]? = some (nodeAt ns x) := by rw [kidL, List.getElem?_map, hx]; rfl
  exact ⟨x, hx, (mem_kids.1 (List.mem_of_getElem? hx)).1, h2, by rw [nodeAt, h2]; rfl, by rw [List.getElem?_map, hx]; rfl⟩
theorem refSum_is (A : Option Addr) (c : Nat) (ns : List Node) (m : Nat) (hg : GoodC ns) (w : World) (hN : Nodes w w.heap.size A ns) (s : Int) (hs : wsum ns m = s) :
    Calls Tryz.prog 80 #[.agg #[.slice A ns.length c], .int .i64 m] w fun e w' => e = .returned (.int .i64 s) ∧ Below w.heap.size w w' := by
  rw [← hs]; exact refSum_any A c ns m hg w hN

set_option maxRecDepth 100000 in
set_option maxHeartbeats 8000000 in
theorem splitOf_any (A : Option Addr) (c : Nat) (ns : List Node) (m : Nat) (P : Int) (hg : GoodC ns) (hP0 : 0 ≤ P) (hP4 : P ≤ 400) (w : World) (hN : Nodes w w.heap.size A ns) :
    Calls Tryz.prog 53 #[.agg #[.slice A ns.length c], .int .i64 m, .int .i64 P] w fun e w' => ∃ B d, e = .returned (.tuple #[.slice B (kidsN ns m).length d, .int .i64 (splitL P (kidL ns m)).2]) ∧ IntsAt w' w'.heap.size B (splitL P (kidL ns m)).1 ∧ Below w.heap.size w w' := by
  have EH := Lib.hid (Env.new c hN)
  have hl8 := hg.l8
  have hkl := kidsN_len hg m
  have HB := Lib.hid (below_any A c ns m (by omega) hg.l1 _ EH.out.hN)
  clear hN
  go_enter Tryz.func53, Tryz.ntmps53
  go_wp2_with (go_at_call 79; go_must (refine HB.out.mono ?_; rintro e w1 ⟨B, d, rfl, hI, hb1⟩))
  have EL := Lib.hid (show EnvL w A c ns B (kidsN ns m) w1 from ⟨EH.out.next hb1, hI⟩)
  clear hI
  go_loopw [6, 9, 10, 11] (fun v r i _ wr => ∃ j : Nat, j ≤ (kidsN ns m).length ∧ i = .int .i64 j ∧ r = .int .i64 (lFix P ((kidL ns m).take j)).2 ∧ Hid (Ints wr w1.heap.size v (lFix P ((kidL ns m).take j)).1) ∧ Below w1.heap.size w1 wr)
    (fun _ _ i _ _ => (kidsN ns m).length - (intOf i).toNat)
  case atStart => exact ⟨0, Nat.zero_le _, rfl, rfl, Lib.hid (ints_nil _ _), Below.refl _ _⟩
  case round =>
    obtain ⟨j, hj, rfl, rfl, HV, hb⟩ := hrel
    by_cases hlt : j < (kidsN ns m).length
    · obtain ⟨x, hx, hxl, hx2, _, hx3⟩ := kid_at hlt
      have HL := Lib.hid (EL.out.next hb)
      have HT := lFix_take hx2 P
      have hrb := lFix_bd ((kidL ns m).take j) (fun y hy => kidF hg m y (List.mem_of_mem_take hy)) P hP0
      have hrb1 := hrb.1
      have hrb2 := hrb.2.1
      have hlen : (lFix P ((kidL ns m).take j)).1.length ≤ 1000 := by rw [lFix_len, List.length_take]; omega
      have hfx := hg.fs x _ (GoodC.at_ hxl)
      have hgm := gmin_min (nodeAt ns x).f (lFix P ((kidL ns m).take j)).2
      generalize (lFix P ((kidL ns m).take j)).2 = r at *
      generalize (lFix P ((kidL ns m).take j)).1 = fx at *
      have r0 := extB_cell HL.out.e.bC.cell
      obtain ⟨b2, o2, hB, _, e2⟩ := IntsAt.at_ HL.out.hI hx3
      subst hB
      obtain ⟨b, off, ee, _, _, _, d3⟩ := HL.out.e.hN.at_ (GoodC.at_ hxl)
      subst ee
      have r1 := extB_cell e2
      have r2 := extB_cell d3
      clear hx hx2 hx3 e2 d3 hrb
      have hwr : w1.heap.size ≤ wr.heap.size := hb.size
      by_cases hmin : (nodeAt ns x).f < r
      · rw [hgm.1 hmin] at HT
        have HT2 := Lib.hid HT
        clear HT
        clear hgm
        go_wp2
        refine wp_region_ext (by kernel_rfl) (by kernel_rfl) ?_
        repeat (go_big_quiet_step (fail))
        refine wpQuiet_nil ?_
        rintro _ ⟨x1, rfl⟩
        obtain ⟨W3, hW3⟩ : ∃ W3, extB wr x1 = W3 := ⟨_, rfl⟩
        have hb3 := extB_below wr x1
        rw [hW3] at hb3 ⊢
        clear hW3 r0 r1 r2
        have hs3 : w1.heap.size ≤ W3.heap.size := Nat.le_trans hwr hb3.size
        go_wp2_with (at_builtin; go_must (refine wpl_app rfl (.tmp 38) (.tmp 40) rfl w1.heap.size w1.heap.size _ fx (nodeAt ns x).f rfl (Ints.below_ HV.out (hb3.alloc hb3.size _) (Nat.le_refl _)) ⟨W3.heap.size, 0, none⟩ 1 rfl (Boxed.cell (Boxed.new W3 3 (.int .i64 (nodeAt ns x).f))) hlen (by simp; omega) (Nat.le_refl _) ?_; intro v' w4 hown4 hb7))
        go_roundw
        case rel => exact ⟨j + 1, by omega, by go_num, by rw [HT2.out], Lib.hid (by rw [HT2.out]; exact hown4), (hb.trans (hb3.mono hwr)).trans (((Below.refl _ W3).alloc hs3 _).trans hb7)⟩
        case measure => simp [intOf]; omega
      · rw [hgm.2 hmin] at HT
        have HT2 := Lib.hid HT
        clear HT
        have hmin2 : r ≤ (nodeAt ns x).f := by omega
        clear hgm hmin
        go_wp2
        refine wp_region_ext (by kernel_rfl) (by kernel_rfl) ?_
        repeat (go_big_quiet_step (fail))
        refine wpQuiet_nil ?_
        rintro _ ⟨x1, rfl⟩
        obtain ⟨W3, hW3⟩ : ∃ W3, extB wr x1 = W3 := ⟨_, rfl⟩
        have hb3 := extB_below wr x1
        rw [hW3] at hb3 ⊢
        clear hW3 r0 r1 r2
        have hs3 : w1.heap.size ≤ W3.heap.size := Nat.le_trans hwr hb3.size
        go_wp2_with (at_builtin; go_must (refine wpl_app rfl (.tmp 38) (.tmp 40) rfl w1.heap.size w1.heap.size _ fx r rfl (Ints.below_ HV.out (hb3.alloc hb3.size _) (Nat.le_refl _)) ⟨W3.heap.size, 0, none⟩ 1 rfl (Boxed.cell (Boxed.new W3 3 (.int .i64 r))) hlen (by simp; omega) (Nat.le_refl _) ?_; intro v' w4 hown4 hb7))
        go_roundw
        case rel => exact ⟨j + 1, by omega, by go_num, by rw [HT2.out]; show _ = Value.int .i64 (r - r); rw [Int.sub_self], Lib.hid (by rw [HT2.out]; exact hown4), (hb.trans (hb3.mono hwr)).trans (((Below.refl _ W3).alloc hs3 _).trans hb7)⟩
        case measure => simp [intOf]; omega
    · obtain rfl : j = (kidsN ns m).length := by omega
      have ht : (kidL ns m).take (kidsN ns m).length = kidL ns m := by rw [← kidL_len, List.take_length]
      rw [ht] at HV ⊢
      have hrb := lFix_bd (kidL ns m) (kidF hg m) P hP0
      have hR0 := hrb.1
      have hR4 : (lFix P (kidL ns m)).2 ≤ 400 := by have := hrb.2.1; omega
      have hfl := lFix_len (kidL ns m) P
      rw [kidL_len] at hfl
      have hwb := wsum_bd hg m
      have HL := EL.out.next hb
      have HLe := Lib.hid HL.e
      have q0 := HL.e.bC.cell
      clear HL
      by_cases hs0 : wsum ns m = 0
      · have HSp := Lib.hid (show splitL P (kidL ns m) = lFix P (kidL ns m) from if_neg (by change ¬ 0 < wsum ns m; omega))
        obtain ⟨A3, c3, rfl, _, hI3⟩ := Ints.lay HV.out
        have HI3 := Lib.hid hI3
        have HF := Lib.hid hfl
        have HS0 := Lib.hid hs0
        clear hI3 hrb hs0 hfl ht
        go_wp2_with (go_at_call 80; go_must (refine (refSum_is _ c ns m hg wr HLe.out.hN 0 HS0.out).mono ?_; rintro e w5 ⟨rfl, hb5⟩))
        go_ret2
        refine ⟨A3, c3, ?_, by rw [HSp.out]; exact ilt HI3.out hb5, (HLe.out.next hb5).hb⟩
        rw [HSp.out, ← HF.out]
        rfl
      · obtain ⟨s, hsS⟩ : ∃ s, wsum ns m = s := ⟨_, rfl⟩
        have hsp : 0 < s := by omega
        have hs63 : s ≤ 63 := by omega
        have hsb : (s == 0) = false := by rw [beq_eq_false_iff_ne]; omega
        have hls : lSum (kidL ns m) = s := hsS
        have HOS := Lib.hid (ones_split (kidL ns m) (kidW hg m) P (by rw [hls]; exact hsp))
        have HS2 := Lib.hid (show (splitL P (kidL ns m)).2 = 0 from by unfold splitL; rw [if_pos (by rw [hls]; exact hsp)])
        have hodd0 := (lOdd_bd (lFix P (kidL ns m)).2 (kidL ns m) (kidW hg m) (by rw [hls]; exact hsp)).1
        have hne : (lFix P (kidL ns m)).1 ≠ [] := by
          intro h
          rw [h] at hfl
          have h0 : kidsN ns m = [] := List.length_eq_zero_iff.1 hfl.symm
          have : wsum ns m = 0 := by rw [wsum, h0]; rfl
          omega
        obtain ⟨g, cap, rfl, hgb⟩ := Ints.some_ HV.out hne
        have HSS := Lib.hid hsS
        rw [hls] at HOS hodd0
        have HLS := Lib.hid hls
        have HFL := Lib.hid hfl
        have HFB := Lib.hid (show ∀ i, 0 ≤ at0 (lFix P (kidL ns m)).1 i ∧ at0 (lFix P (kidL ns m)).1 i ≤ 400 from fun i => lFix_at_bd (kidL ns m) (kidF hg m) P hP0 hP4 i)
        rw [hfl] at HV
        generalize (lFix P (kidL ns m)).2 = R at *
        generalize (lFix P (kidL ns m)).1 = fx at *
        have hfx : fx.length ≤ 7 := by omega
        clear hsS hls hne hrb ht hs0
        rw [hfl]
        clear hfl
        go_wp2_with (go_at_call 80; go_must (refine (refSum_is _ c ns m hg wr HLe.out.hN s HSS.out).mono ?_; rintro e w5 ⟨rfl, hb5⟩))
        have hb15 := hb.trans (hb5.mono hb.size)
        have HV5 := Lib.hid (Ints.below_ HV.out hb5 (Nat.le_refl _))
        go_loopw [13, 14, 15] (fun o i _ wr2 => ∃ j : Nat, j ≤ (kidsN ns m).length ∧ i = .int .i64 j ∧ o = .int .i64 (oddTo (kidL ns m) R s j) ∧ Hid (Ints wr2 w1.heap.size (.slice (some ⟨g, 0, none⟩) (kidsN ns m).length cap) (partsTo (kidL ns m) R s fx j)) ∧ Below w1.heap.size w1 wr2)
          (fun _ i _ _ => (kidsN ns m).length - (intOf i).toNat)
        case atStart => exact ⟨0, Nat.zero_le _, rfl, by simp [oddTo], HV5, hb15⟩
        case round =>
          obtain ⟨j, hj, rfl, rfl, HW, hb6⟩ := hrel
          have hwr6 : w1.heap.size ≤ wr.heap.size := hb6.size
          by_cases hlt : j < (kidsN ns m).length
          · obtain ⟨x, hx, hxl, hx2, hx4, hx3⟩ := kid_at hlt
            have HL := Lib.hid (EL.out.next hb6)
            have hwx := hg.ws x _ (GoodC.at_ hxl)
            have hq := quo_small hR0 hR4 hwx.1 hwx.2 hsp
            have HO := Lib.hid (oddTo_step (R := R) (s := s) hx2)
            have hob := oddTo_bd (l := kidL ns m) hR0 hR4 hsp (fun y hy => by
              obtain ⟨i, hi, rfl⟩ := List.mem_map.1 hy
              exact hg.ws i _ (GoodC.at_ (mem_kids.1 hi).1)) (by rw [kidL_len]; exact hkl) j (by rw [kidL_len]; omega)
            have hpl : (partsTo (kidL ns m) R s fx j).length = (kidsN ns m).length := by rw [partsTo_len]; exact HFL.out
            have HPT := Lib.hid (show partsTo (kidL ns m) R s fx (j + 1) = (partsTo (kidL ns m) R s fx j).set j (at0 (partsTo (kidL ns m) R s fx j) j + R * (nodeAt ns x).w / s) from by rw [partsTo, hx4])
            have c1 := Ints.cells_ HW.out (k := j) (by omega)
            have c2 := Ints.fr_ HW.out j
            have hab : 0 ≤ at0 (partsTo (kidL ns m) R s fx j) j ∧ at0 (partsTo (kidL ns m) R s fx j) j ≤ 400 := by
              have h1 := partsTo_at (kidL ns m) R s fx j j (by have := HFL.out; omega)
              rw [if_neg (by omega), Int.add_zero] at h1
              rw [h1]
              exact HFB.out j
            generalize oddTo (kidL ns m) R s j = od at *
            have r0 := extB_cell HL.out.e.bC.cell
            obtain ⟨b2, o2, hB, _, e2⟩ := IntsAt.at_ HL.out.hI hx3
            subst hB
            obtain ⟨b, off, ee, _, _, d2, _⟩ := HL.out.e.hN.at_ (GoodC.at_ hxl)
            subst ee
            have r1 := extB_cell e2
            have r2 := extB_cell d2
            have r3 := extB_cell c1
            have HW2 := HW
            generalize partsTo (kidL ns m) R s fx j = pt at *
            clear hx hx2 hx3 hx4 e2 d2 c1 hpl
            go_wp2
            refine wp_region_ext (by kernel_rfl) (by kernel_rfl) ?_
            repeat (go_big_quiet_step (fail))
            refine wpQuiet_nil ?_
            rintro _ ⟨x1, rfl⟩
            have hb7 := extB_below wr x1
            have HW3 := Lib.hid (Ints.below_ HW2.out hb7 (Nat.le_refl _))
            obtain ⟨W7, hW7⟩ : ∃ W7, extB wr x1 = W7 := ⟨_, rfl⟩
            have r4 := r3 x1
            rw [hW7] at hb7 HW3 r4 ⊢
            have r5 := Ints.fr_ HW3.out j
            clear hW7 r0 r1 r2 r3 c2
            go_wp2
            go_roundw
            case rel => exact ⟨j + 1, by omega, by go_num, by rw [HO.out], Lib.hid (by rw [HPT.out]; exact Ints.set_ HW3.out j _), (hb6.trans (hb7.mono hwr6)).setCell (p := ⟨g, j, none⟩) hgb _⟩
            case measure => simp [intOf]; omega
          · obtain rfl : j = (kidsN ns m).length := by omega
            have hod : oddTo (kidL ns m) R s (kidsN ns m).length = lOdd R s (kidL ns m) := by unfold oddTo lOdd; rw [← kidL_len, List.take_length]
            have hod0 : 0 ≤ oddTo (kidL ns m) R s (kidsN ns m).length := by rw [hod]; exact hodd0
            have hod4 : oddTo (kidL ns m) R s (kidsN ns m).length ≤ 400 := (oddTo_bd (l := kidL ns m) hR0 hR4 hsp (fun y hy => by
              obtain ⟨i, hi, rfl⟩ := List.mem_map.1 hy
              exact hg.ws i _ (GoodC.at_ (mem_kids.1 hi).1)) (by rw [kidL_len]; exact hkl) _ (by rw [kidL_len]; omega)).2
            have HOS2 := Lib.hid (show (onesTo (kidL ns m) (partsTo (kidL ns m) R s fx (kidsN ns m).length) (oddTo (kidL ns m) R s (kidsN ns m).length) (kidsN ns m).length).1 = (splitL P (kidL ns m)).1 from by
              have := HOS.out
              rw [kidL_len] at this
              exact this)
            have hpl : (partsTo (kidL ns m) R s fx (kidsN ns m).length).length = (kidsN ns m).length := by rw [partsTo_len]; exact HFL.out
            have HPB := Lib.hid (show ∀ i, 0 ≤ at0 (partsTo (kidL ns m) R s fx (kidsN ns m).length) i ∧ at0 (partsTo (kidL ns m) R s fx (kidsN ns m).length) i ≤ 4000 from fun i => by
              by_cases hi : i < fx.length
              · rw [partsTo_at (kidL ns m) R s fx _ i hi]
                have h1 := HFB.out i
                obtain ⟨x, _, hxl, _, hx4, _⟩ := kid_at (ns := ns) (m := m) (j := i) (by have := HFL.out; omega)
                rw [hx4]
                have hwx := hg.ws x _ (GoodC.at_ hxl)
                have hq := quo_small hR0 hR4 hwx.1 hwx.2 hsp
                split <;> omega
              · have : at0 (partsTo (kidL ns m) R s fx (kidsN ns m).length) i = 0 := by
                  simp only [at0]
                  rw [List.getElem?_eq_none (by rw [partsTo_len]; omega)]
                  rfl
                omega)
            generalize partsTo (kidL ns m) R s fx (kidsN ns m).length = st at *
            generalize oddTo (kidL ns m) R s (kidsN ns m).length = od at *
            clear hod hodd0
            obtain ⟨W6, hW6⟩ : ∃ W6, W6 = wr := ⟨_, rfl⟩
            subst hW6
            go_wp2
            go_loopw [13, 16] (fun o i wr2 => ∃ j : Nat, j ≤ (kidsN ns m).length ∧ i = .int .i64 j ∧ o = .int .i64 (onesTo (kidL ns m) st od j).2 ∧ Hid (Ints wr2 w1.heap.size (.slice (some ⟨g, 0, none⟩) (kidsN ns m).length cap) (onesTo (kidL ns m) st od j).1) ∧ Below w1.heap.size w1 wr2)
              (fun _ i _ => (kidsN ns m).length - (intOf i).toNat)
            case atStart => exact ⟨0, Nat.zero_le _, rfl, rfl, HW, hb6⟩
            case round =>
              obtain ⟨j, hj, rfl, rfl, HX, hb8⟩ := hrel
              have hwr8 : w1.heap.size ≤ wr.heap.size := hb8.size
              have ho := onesTo_odd (l := kidL ns m) (st := st) hod0 j (by rw [kidL_len]; omega)
              have hol := onesTo_len (kidL ns m) st od j
              have HL := Lib.hid (EL.out.next hb8)
              by_cases hlt : j < (kidsN ns m).length
              · by_cases hO : 0 < (onesTo (kidL ns m) st od j).2
                · obtain ⟨x, hx, hxl, hx2, hx4, hx3⟩ := kid_at hlt
                  have hwx := hg.ws x _ (GoodC.at_ hxl)
                  have hab := onesTo_at (l := kidL ns m) (st := st) hod0 (by rw [kidL_len]; exact hpl) j (by rw [kidL_len]; omega) j (by rw [kidL_len]; omega)
                  rw [if_neg (by omega), Int.add_zero] at hab
                  have hst := HPB.out j
                  rw [← hab] at hst
                  have c1 := Ints.cells_ HX.out (k := j) (by omega)
                  have c2 := Ints.fr_ HX.out j
                  have r0 := extB_cell HL.out.e.bC.cell
                  obtain ⟨b2, o2, hB, _, e2⟩ := IntsAt.at_ HL.out.hI hx3
                  subst hB
                  obtain ⟨b, off, ee, _, _, d2, _⟩ := HL.out.e.hN.at_ (GoodC.at_ hxl)
                  subst ee
                  have r1 := extB_cell e2
                  have r2 := extB_cell d2
                  have r3 := extB_cell c1
                  by_cases hw : 0 < (nodeAt ns x).w
                  · have HN1 := Lib.hid (show onesTo (kidL ns m) st od (j + 1) = ((onesTo (kidL ns m) st od j).1.set j (at0 (onesTo (kidL ns m) st od j).1 j + 1), (onesTo (kidL ns m) st od j).2 - 1) from by rw [onesTo, hx4, if_pos ⟨hw, hO⟩])
                    generalize (onesTo (kidL ns m) st od j).1 = bl at *
                    generalize (onesTo (kidL ns m) st od j).2 = oo at *
                    clear hx hx2 hx3 hx4 e2 d2 c1 hab
                    have hoo : oo ≤ 400 := by omega
                    clear ho
                    go_wp2
                    refine wp_region_ext (by kernel_rfl) (by kernel_rfl) ?_
                    repeat (go_big_quiet_step (fail))
                    refine wpQuiet_nil ?_
                    rintro _ ⟨x1, rfl⟩
                    have hb9 := extB_below wr x1
                    have HW3 := Lib.hid (Ints.below_ HX.out hb9 (Nat.le_refl _))
                    obtain ⟨W9, hW9⟩ : ∃ W9, extB wr x1 = W9 := ⟨_, rfl⟩
                    have r4 := r3 x1
                    rw [hW9] at hb9 HW3 r4 ⊢
                    have r5 := Ints.fr_ HW3.out j
                    clear hW9 r0 r1 r2 r3 c2
                    go_wp2
                    go_roundw
                    case rel => exact ⟨j + 1, by omega, by go_num, by rw [HN1.out], Lib.hid (by rw [HN1.out]; exact Ints.set_ HW3.out j _), (hb8.trans (hb9.mono hwr8)).setCell (p := ⟨g, j, none⟩) hgb _⟩
                    case measure => simp [intOf]; omega
                  · have HN1 := Lib.hid (show onesTo (kidL ns m) st od (j + 1) = onesTo (kidL ns m) st od j from by rw [onesTo, hx4, if_neg (fun h => hw h.1)])
                    generalize onesTo (kidL ns m) st od j = bo at *
                    clear hx hx2 hx3 hx4 e2 d2 c1 hab ho
                    have hw0 : (nodeAt ns x).w ≤ 0 := by omega
                    go_wp2
                    refine wp_region_ext (by kernel_rfl) (by kernel_rfl) ?_
                    repeat (go_big_quiet_step (fail))
                    refine wpQuiet_nil ?_
                    rintro _ ⟨x1, rfl⟩
                    have hb9 := extB_below wr x1
                    have HW3 := Lib.hid (Ints.below_ HX.out hb9 (Nat.le_refl _))
                    clear r0 r1 r2 r3 c2
                    go_wp2
                    go_roundw
                    case rel => exact ⟨j + 1, by omega, by go_num, by rw [HN1.out], by rw [HN1.out]; exact HW3, hb8.trans (hb9.mono hwr8)⟩
                    case measure => simp [intOf]; omega
                · have HN1 := Lib.hid (show onesTo (kidL ns m) st od (kidsN ns m).length = onesTo (kidL ns m) st od j from by
                    have := onesTo_stop (l := kidL ns m) hO ((kidsN ns m).length - j)
                    rwa [show j + ((kidsN ns m).length - j) = (kidsN ns m).length by omega] at this)
                  have hI9 : Hid (IntsAt wr wr.heap.size (some ⟨g, 0, none⟩) (splitL P (kidL ns m)).1) := Lib.hid (by
                    rw [← HOS2.out, HN1.out]
                    obtain ⟨A3, c3, e3, _, hI3⟩ := Ints.lay HX.out
                    injection e3 with h1 _ _
                    rw [h1]
                    exact hI3)
                  generalize onesTo (kidL ns m) st od j = bo at *
                  have hO2 : bo.2 ≤ 0 := by omega
                  clear hO ho
                  go_wp2
                  go_ret2
                  exact ⟨some ⟨g, 0, none⟩, cap, by rw [HS2.out]; rfl, hI9.out, HL.out.e.hb⟩
              · obtain rfl : j = (kidsN ns m).length := by omega
                have hI9 : Hid (IntsAt wr wr.heap.size (some ⟨g, 0, none⟩) (splitL P (kidL ns m)).1) := Lib.hid (by
                  rw [← HOS2.out]
                  obtain ⟨A3, c3, e3, _, hI3⟩ := Ints.lay HX.out
                  injection e3 with h1 _ _
                  rw [h1]
                  exact hI3)
                generalize onesTo (kidL ns m) st od (kidsN ns m).length = bo at *
                clear ho
                go_wp2
                go_ret2
                exact ⟨some ⟨g, 0, none⟩, cap, by rw [HS2.out]; rfl, hI9.out, HL.out.e.hb⟩
open Go.RowKit

theorem splitOf_is (A : Option Addr) (c : Nat) (ns : List Node) (m : Nat) (u P : Int) (hu : (m : Int) = u) (hg : GoodC ns) (hP0 : 0 ≤ P) (hP4 : P ≤ 400) (w : World) (hN : Nodes w w.heap.size A ns) :
    Calls Tryz.prog 53 #[.agg #[.slice A ns.length c], .int .i64 u, .int .i64 P] w fun e w' => ∃ B d, e = .returned (.tuple #[.slice B (kidsN ns m).length d, .int .i64 (splitL P (kidL ns m)).2]) ∧ IntsAt w' w'.heap.size B (splitL P (kidL ns m)).1 ∧ Below w.heap.size w w' := by
  subst hu
  exact splitOf_any A c ns m P hg hP0 hP4 w hN
set_option maxRecDepth 100000 in
set_option maxHeartbeats 8000000 in
theorem getsOf_any (A : Option Addr) (c : Nat) (ns : List Node) (P : Int) (hg : GoodC ns) (hP0 : 0 ≤ P) (hP4 : P ≤ 400) : ∀ (m : Nat) (w : World), m < ns.length → Nodes w w.heap.size A ns →
    Calls Tryz.prog 54 #[.agg #[.slice A ns.length c], .int .i64 m, .int .i64 P] w fun e w' => e = .returned (.int .i64 (gotS ns P m)) ∧ Below w.heap.size w w' := by
  intro m
  induction m using Nat.strongRecOn with
  | _ m ih =>
    intro w hm hN
    have EH := Lib.hid (Env.new c hN)
    have hl8 := hg.l8
    clear hN
    by_cases h0 : m = 0
    · subst h0
      have HQ := Lib.hid (gotS_zero ns P)
      clear ih
      go_enter Tryz.func54, Tryz.ntmps54
      go_wp2
      go_ret
      exact ⟨by rw [HQ.out]; rfl, EH.out.hb⟩
    · have h1 : 0 < m := by omega
      have hmb : ((m : Int) == 0) = false := by rw [beq_eq_false_iff_ne]; omega
      have hu := hg.upN hm h1
      have hup : (upN ns m : Int) = (nodeAt ns m).u := hu.2
      have hum : upN ns m < m := hu.1
      have IH := Lib.hid (fun (W : World) (hW : Nodes W W.heap.size A ns) => (show Calls Tryz.prog 54 #[.agg #[.slice A ns.length c], .int .i64 (nodeAt ns m).u, .int .i64 P] W fun e w' => e = .returned (.int .i64 (gotS ns P (upN ns m))) ∧ Below W.heap.size W w' from by rw [← hup]; exact ih (upN ns m) hum W (by omega) hW))
      obtain ⟨b, off, hA, _, d1, _, _⟩ := EH.out.hN.at_ (GoodC.at_ hm)
      subst hA
      have q0 := EH.out.bC.cell
      have hbd := gotS_bd hg hP0 (upN ns m) (by omega)
      have hkl := kidsN_len hg (upN ns m)
      have hmem : m ∈ kidsN ns (upN ns m) := mem_kids.2 ⟨hm, h1, hup.symm⟩
      obtain ⟨ix, hix, hixe⟩ := List.mem_iff_getElem.1 hmem
      have hixq : (kidsN ns (upN ns m))[ix]? = some m := by rw [List.getElem?_eq_getElem hix, hixe]
      have HIX := Lib.hid hixq
      have HNI := Lib.hid (show ∀ j, (kidsN ns (upN ns m))[j]? = some m → j = ix from fun j hj => by
        have hj2 := (List.getElem?_eq_some_iff.1 hj)
        obtain ⟨hj3, hj4⟩ := hj2
        exact (List.getElem_inj (kids_nodup ns (upN ns m))).1 (hj4.trans hixe.symm))
      have HAT := Lib.hid (show (splitL (gotS ns P (upN ns m)) (kidL ns (upN ns m))).1[ix]? = some (gotS ns P m) from by
        have h2 : ix < (splitL (gotS ns P (upN ns m)) (kidL ns (upN ns m))).1.length := by rw [splitL_len, kidL_len]; exact hix
        have h3 := gotS_up hg P hm h1
        change gotS ns P m = look m ((kidsN ns (upN ns m)).zip (splitL (gotS ns P (upN ns m)) (kidL ns (upN ns m))).1) at h3
        rw [h3, look_at _ _ ix m (kids_nodup ns _) hixq (by rw [splitL_len, kidL_len]), List.getElem?_eq_getElem h2]
        rfl)
      clear h0 hu ih hmem hixe hixq
      go_enter Tryz.func54, Tryz.ntmps54
      go_wp2
      have E1 := Lib.hid (EH.out.next (drew_below _))
      go_region_with (first
        | (go_at_call 54; go_must (refine (IH.out _ E1.out.hN).mono ?_; rintro e w2 ⟨rfl, hb2⟩; have E2 := E1.out.next hb2; have r1 := E2.bC.cell))
        | (go_at_call 53; go_must (refine (splitOf_is _ c ns (upN ns m) _ _ hup hg hbd.1 (by omega) w2 E2.hN).mono ?_; rintro e w3 ⟨B, d, rfl, hI, hb3⟩; have E3 := E2.next hb3)))
      all_goals
        have HI3 := Lib.hid hI
        have E3H := Lib.hid E3
        have q3 := E3.bC.cell
        clear hI E3 E2 hb2 hb3 r1 q0 d1
        go_wp2_with (go_at_call 79; go_must (refine (below_is _ c ns (upN ns m) _ hup (by omega) hg.l1 w3 E3H.out.hN).mono ?_; rintro e w4 ⟨B2, d2, rfl, hI2, hb4⟩))
        have EL := Lib.hid (show EnvL w (some ⟨b, off, none⟩) c ns B2 (kidsN ns (upN ns m)) w4 from ⟨E3H.out.next hb4, hI2⟩)
        have HI4 := Lib.hid (ilt HI3.out hb4)
        clear hI2
        go_loopw [11, 12] (fun v i wr => ∃ j : Nat, j ≤ (kidsN ns (upN ns m)).length ∧ i = .int .i64 j ∧ v = .int .i64 (if ix < j then gotS ns P m else 0) ∧ w4 = wr)
          (fun _ i _ => (kidsN ns (upN ns m)).length - (intOf i).toNat)
        case atStart => exact ⟨0, Nat.zero_le _, rfl, rfl, rfl⟩
        case round =>
          obtain ⟨j, hj, rfl, rfl, rfl⟩ := hrel
          by_cases hlt : j < (kidsN ns (upN ns m)).length
          · obtain ⟨x, hx, hxl, _, _, hx3⟩ := kid_at hlt
            obtain ⟨b2, o2, hB, _, e2⟩ := IntsAt.at_ EL.out.hI hx3
            subst hB
            by_cases he : x = m
            · have hji : j = ix := HNI.out j (by rw [hx, he])
              have hxb : ((x : Int) == (m : Int)) = true := by rw [he]; simp
              have hv : (splitL (gotS ns P (upN ns m)) (kidL ns (upN ns m))).1[j]? = some (gotS ns P m) := by rw [hji]; exact HAT.out
              obtain ⟨b3, o3, hB3, _, e3⟩ := IntsAt.at_ HI4.out hv
              subst hB3
              have HJ := Lib.hid hji
              clear hji hx hx3 hv he
              go_wp2
              go_roundw
              case rel => exact ⟨j + 1, by omega, by go_num, by rw [if_pos (by have := HJ.out; omega)], by trivial⟩
              case measure => simp [intOf]; omega
            · have hji : j ≠ ix := fun e => he (by have := HIX.out; rw [← e, hx] at this; cases this; rfl)
              have hxb : ((x : Int) == (m : Int)) = false := by rw [beq_eq_false_iff_ne]; omega
              have HJ := Lib.hid (show (if ix < j + 1 then gotS ns P m else 0) = (if ix < j then gotS ns P m else 0) from by
                by_cases h : ix < j
                · rw [if_pos h, if_pos (by omega)]
                · rw [if_neg h, if_neg (by omega)])
              clear hji hx hx3 he
              go_wp2
              go_roundw
              case rel => exact ⟨j + 1, by omega, by go_num, by rw [HJ.out], by trivial⟩
              case measure => simp [intOf]; omega
          · obtain rfl : j = (kidsN ns (upN ns m)).length := by omega
            have HJ := Lib.hid (show (if ix < (kidsN ns (upN ns m)).length then gotS ns P m else 0) = gotS ns P m from if_pos hix)
            go_wp2
            go_ret
            exact ⟨by rw [← HJ.out]; rfl, EL.out.e.hb⟩
end Go.Proofs.YtmbcpmnigggbaaaGreat.Sh
namespace Go.Proofs.YtmbcpmnigggbaaaGreat.Sh
open Go.RowKit

theorem getsOf_is (A : Option Addr) (c : Nat) (ns : List Node) (P : Int) (hg : GoodC ns) (hP0 : 0 ≤ P) (hP4 : P ≤ 400) (m : Nat) (w : World) (hm : m < ns.length) (hN : Nodes w w.heap.size A ns) :
    Calls Tryz.prog 54 #[.agg #[.slice A ns.length c], .int .i64 m, .int .i64 P] w fun e w' => e = .returned (.int .i64 (gotS ns P m)) ∧ Below w.heap.size w w' := getsOf_any A c ns P hg hP0 hP4 m w hm hN

open Go.RowKit

end Go.Proofs.YtmbcpmnigggbaaaGreat.Sh
