import Derived.Test.YtohoonbbjkefaaaF4
import Derived.Deep.RegionHeld3
import Derived.Deep.RegionWith
import Derived.Deep.OwnRows
import Derived.Deep.DeepMust
namespace Go.Proofs.Ytohoonbbjkefaaa
open Go.RowKit

theorem splitOf_is (A : Option Addr) (c : Nat) (ns : List Node) (m : Nat) (u P : Int) (hu : (m : Int) = u) (hg : GoodC ns) (hP0 : 0 ≤ P) (hP4 : P ≤ 400) (w : World) (hN : Nodes w w.heap.size A ns) :
    Calls Try.prog 86 #[.agg #[.slice A ns.length c], .int .i64 u, .int .i64 P] w fun e w' => ∃ B d, e = .returned (.tuple #[.slice B (kidsN ns m).length d, .int .i64 (splitL P (kidL ns m)).2]) ∧ IntsAt w' w'.heap.size B (splitL P (kidL ns m)).1 ∧ Below w.heap.size w w' := by
  subst hu
  exact splitOf_any A c ns m P hg hP0 hP4 w hN
set_option maxRecDepth 100000 in
set_option maxHeartbeats 8000000 in
theorem getsOf_any (A : Option Addr) (c : Nat) (ns : List Node) (P : Int) (hg : GoodC ns) (hP0 : 0 ≤ P) (hP4 : P ≤ 400) : ∀ (m : Nat) (w : World), m < ns.length → Nodes w w.heap.size A ns →
    Calls Try.prog 67 #[.agg #[.slice A ns.length c], .int .i64 m, .int .i64 P] w fun e w' => e = .returned (.int .i64 (gotS ns P m)) ∧ Below w.heap.size w w' := by
  intro m
  induction m using Nat.strongRecOn with
  | _ m ih =>
    intro w hm hN
    have EH := Lib.hid (Env.new c hN)
    have hl8 := hg.l8
    clear hN
    by_cases h0 : m = 0
    · subst h0
      have HQ := Lib.hid (gotS_zero ns P)
      clear ih
      go_enter Try.func67, Try.ntmps67
      go_wp2
      go_ret
      exact ⟨by rw [HQ.out]; rfl, EH.out.hb⟩
    · have h1 : 0 < m := by omega
      have hmb : ((m : Int) == 0) = false := by rw [beq_eq_false_iff_ne]; omega
      have hu := hg.upN hm h1
      have hup : (upN ns m : Int) = (nodeAt ns m).u := hu.2
      have hum : upN ns m < m := hu.1
      have IH := Lib.hid (fun (W : World) (hW : Nodes W W.heap.size A ns) => (show Calls Try.prog 67 #[.agg #[.slice A ns.length c], .int .i64 (nodeAt ns m).u, .int .i64 P] W fun e w' => e = .returned (.int .i64 (gotS ns P (upN ns m))) ∧ Below W.heap.size W w' from by rw [← hup]; exact ih (upN ns m) hum W (by omega) hW))
      obtain ⟨b, off, hA, _, d1, _, _⟩ := EH.out.hN.at_ (GoodC.at_ hm)
      subst hA
      have q0 := EH.out.bC.cell
      have hbd := gotS_bd hg hP0 (upN ns m) (by omega)
      have hkl := kidsN_len hg (upN ns m)
      have hmem : m ∈ kidsN ns (upN ns m) := mem_kids.2 ⟨hm, h1, hup.symm⟩
      obtain ⟨ix, hix, hixe⟩ := List.mem_iff_getElem.1 hmem
      have hixq : (kidsN ns (upN ns m))[ix]? = some m := by rw [List.getElem?_eq_getElem hix, hixe]
      have HIX := Lib.hid hixq
      have HNI := Lib.hid (show ∀ j, (kidsN ns (upN ns m))[j]? = some m → j = ix from fun j hj => by
        have hj2 := (List.getElem?_eq_some_iff.1 hj)
        obtain ⟨hj3, hj4⟩ := hj2
        exact (List.getElem_inj (kids_nodup ns (upN ns m))).1 (hj4.trans hixe.symm))
      have HAT := Lib.hid (show (splitL (gotS ns P (upN ns m)) (kidL ns (upN ns m))).1[ix]? = some (gotS ns P m) from by
        have h2 : ix < (splitL (gotS ns P (upN ns m)) (kidL ns (upN ns m))).1.length := by rw [splitL_len, kidL_len]; exact hix
        have h3 := gotS_up hg P hm h1
        change gotS ns P m = look m ((kidsN ns (upN ns m)).zip (splitL (gotS ns P (upN ns m)) (kidL ns (upN ns m))).1) at h3
        rw [h3, look_at _ _ ix m (kids_nodup ns _) hixq (by rw [splitL_len, kidL_len]), List.getElem?_eq_getElem h2]
        rfl)
      clear h0 hu ih hmem hixe hixq
      go_enter Try.func67, Try.ntmps67
      go_wp2
      have E1 := Lib.hid (EH.out.next (drew_below _))
      go_region_with (first
        | (go_at_call 67; go_must (refine (IH.out _ E1.out.hN).mono ?_; rintro e w2 ⟨rfl, hb2⟩; have E2 := E1.out.next hb2; have r1 := E2.bC.cell))
        | (go_at_call 86; go_must (refine (splitOf_is _ c ns (upN ns m) _ _ hup hg hbd.1 (by omega) w2 E2.hN).mono ?_; rintro e w3 ⟨B, d, rfl, hI, hb3⟩; have E3 := E2.next hb3)))
      all_goals
        have HI3 := Lib.hid hI
        have E3H := Lib.hid E3
        have q3 := E3.bC.cell
        clear hI E3 E2 hb2 hb3 r1 q0 d1
        go_wp2_with (go_at_call 29; go_must (refine (below_is _ c ns (upN ns m) _ hup (by omega) hg.l1 w3 E3H.out.hN).mono ?_; rintro e w4 ⟨B2, d2, rfl, hI2, hb4⟩))
        have EL := Lib.hid (show EnvL w (some ⟨b, off, none⟩) c ns B2 (kidsN ns (upN ns m)) w4 from ⟨E3H.out.next hb4, hI2⟩)
        have HI4 := Lib.hid (ilt HI3.out hb4)
        clear hI2
        go_loopw [11, 12] (fun v i wr => ∃ j : Nat, j ≤ (kidsN ns (upN ns m)).length ∧ i = .int .i64 j ∧ v = .int .i64 (if ix < j then gotS ns P m else 0) ∧ w4 = wr)
          (fun _ i _ => (kidsN ns (upN ns m)).length - (intOf i).toNat)
        case atStart => exact ⟨0, Nat.zero_le _, rfl, rfl, rfl⟩
        case round =>
          obtain ⟨j, hj, rfl, rfl, rfl⟩ := hrel
          by_cases hlt : j < (kidsN ns (upN ns m)).length
          · obtain ⟨x, hx, hxl, _, _, hx3⟩ := kid_at hlt
            obtain ⟨b2, o2, hB, _, e2⟩ := IntsAt.at_ EL.out.hI hx3
            subst hB
            by_cases he : x = m
            · have hji : j = ix := HNI.out j (by rw [hx, he])
              have hxb : ((x : Int) == (m : Int)) = true := by rw [he]; simp
              have hv : (splitL (gotS ns P (upN ns m)) (kidL ns (upN ns m))).1[j]? = some (gotS ns P m) := by rw [hji]; exact HAT.out
              obtain ⟨b3, o3, hB3, _, e3⟩ := IntsAt.at_ HI4.out hv
              subst hB3
              have HJ := Lib.hid hji
              clear hji hx hx3 hv he
              go_wp2
              go_roundw
              case rel => exact ⟨j + 1, by omega, by go_num, by rw [if_pos (by have := HJ.out; omega)], by trivial⟩
              case measure => simp [intOf]; omega
            · have hji : j ≠ ix := fun e => he (by have := HIX.out; rw [← e, hx] at this; cases this; rfl)
              have hxb : ((x : Int) == (m : Int)) = false := by rw [beq_eq_false_iff_ne]; omega
              have HJ := Lib.hid (show (if ix < j + 1 then gotS ns P m else 0) = (if ix < j then gotS ns P m else 0) from by
                by_cases h : ix < j
                · rw [if_pos h, if_pos (by omega)]
                · rw [if_neg h, if_neg (by omega)])
              clear hji hx hx3 he
              go_wp2
              go_roundw
              case rel => exact ⟨j + 1, by omega, by go_num, by rw [HJ.out], by trivial⟩
              case measure => simp [intOf]; omega
          · obtain rfl : j = (kidsN ns (upN ns m)).length := by omega
            have HJ := Lib.hid (show (if ix < (kidsN ns (upN ns m)).length then gotS ns P m else 0) = gotS ns P m from if_pos hix)
            go_wp2
            go_ret
            exact ⟨by rw [← HJ.out]; rfl, EL.out.e.hb⟩
end Go.Proofs.Ytohoonbbjkefaaa
