import Derived.Test.YtohoonbbjkefaaaC5
namespace Go.Proofs.Ytohoonbbjkefaaa
open Go.RowKit

theorem within2_is (n lo hi : Int) (w : World) (b : Bool) (hb : inR n lo hi = b) : Calls Try.prog 71 #[.int .i64 n, .int .i64 lo, .int .i64 hi] w fun e w' => e = .returned (.bool b) ∧ w = w' := by
  rw [← hb]; exact refWithin2_any n lo hi w
set_option maxRecDepth 100000 in
set_option maxHeartbeats 4000000 in
theorem refCheck_any (A : Option Addr) (c : Nat) (ns : List Node) (hn : ns.length ≤ 1000) (w : World) (hN : Nodes w w.heap.size A ns) : Calls Try.prog 47 #[.agg #[.slice A ns.length c]] w fun e w' => e = .returned (.int .i64 (ckE ns)) ∧ Below w.heap.size w w' := by
  have bC := Boxed.new w 24 (.slice A ns.length c)
  by_cases hl : inR ns.length 1 8 = true
  · have HL := Lib.hid hl
    have HN := Lib.hid hN
    clear hl hN
    go_enter Try.func47, Try.ntmps47
    go_wp2_with (go_at_call 71; refine (within2_is _ _ _ _ _ HL.out).mono ?_; rintro e w' ⟨rfl, rfl⟩)
    go_loopw [3, 4] (fun i _ wr => ∃ k : Nat, k ≤ ns.length ∧ i = .int .i64 k ∧ (∀ j x, j < k → ns[j]? = some x → nodeOK j x = true) ∧ Below (w.heap.size + 1) (w.alloc (.cells #[.slice A ns.length c] 24)) wr) (fun i _ _ => ns.length - (intOf i).toNat)
    case atStart => exact ⟨0, Nat.zero_le _, rfl, fun j x hj => by omega, Below.refl _ _⟩
    case round =>
      obtain ⟨k, hk, rfl, hok, hb⟩ := hrel
      have hwr : w.heap.size + 1 ≤ wr.heap.size := by have := hb.size; simp at this; omega
      have m1 : wr.cell? ⟨w.heap.size, 0, none⟩ = some (.slice A ns.length c) := (hb.cell (p := ⟨w.heap.size, 0, none⟩) (by simp)).trans bC.cell
      have hB0 : Below w.heap.size w wr := ((Below.refl _ w).alloc (Nat.le_refl _) _).trans (hb.mono (by omega))
      by_cases hlt : k < ns.length
      · obtain ⟨x, hx⟩ : ∃ x, ns[k]? = some x := ⟨_, List.getElem?_eq_getElem hlt⟩
        obtain ⟨b, off, rfl, hbb, c1, c2, c3⟩ := HN.out.at_ hx
        have d1 := below_cell hB0 c1
        have d2 := below_cell hB0 c2
        have d3 := below_cell hB0 c3
        have HX := Lib.hid hx
        have HO := Lib.hid hok
        clear hx hok c1 c2 c3
        cases hup : upOK k x <;> cases hw : inR x.w 0 9 <;> cases hf : inR x.f 0 20
        all_goals
          have HUP := Lib.hid hup
          clear hup
          by_cases hk0 : k = 0
          · have hk1 : k ≤ 0 := by omega
            have hkb : ((k : Int) == 0) = true := by simpa using hk0
            have hub : (x.u == -1) = upOK k x := by rw [upOK, if_pos hk0, Bool.eq_iff_iff]; simp
            have hub2 : (x.u != -1) = !upOK k x := by rw [← hub]; rfl
            rw [HUP.out] at hub hub2
            dsimp only [Bool.not] at hub2
            clear hub
            clear hk0
            have hno : Hid (nodeOK k x = _) := Lib.hid (show nodeOK k x = _ from by rw [nodeOK, HUP.out, hw, hf])
            go_wp2_with (go_at_call 71; refine (refWithin2_any _ _ _ _).mono ?_; rintro e w' ⟨rfl, rfl⟩)
            first
              | (go_ret; exact ⟨by rw [ckE_no (validB_bad HX.out hno.out)]; rfl, hB0.alloc (by omega) _⟩)
              | (go_roundw
                 case rel => exact ⟨k + 1, by omega, by go_num, okStep HO.out HX.out hno.out, hb.alloc hwr _⟩
                 case measure => simp [intOf]; omega)
          · have hk1 : 0 < k := by omega
            have hkb : ((k : Int) == 0) = false := by simpa using hk0
            have hub : inR x.u 0 (k - 1) = upOK k x := by rw [upOK, if_neg hk0]
            rw [HUP.out] at hub
            clear hk0
            have hno : Hid (nodeOK k x = _) := Lib.hid (show nodeOK k x = _ from by rw [nodeOK, HUP.out, hw, hf])
            go_wp2_with (go_at_call 71; refine (refWithin2_any _ _ _ _).mono ?_; rintro e w' ⟨rfl, rfl⟩)
            first
              | (go_ret; exact ⟨by rw [ckE_no (validB_bad HX.out hno.out)]; rfl, hB0.alloc (by omega) _⟩)
              | (go_roundw
                 case rel => exact ⟨k + 1, by omega, by go_num, okStep HO.out HX.out hno.out, hb.alloc hwr _⟩
                 case measure => simp [intOf]; omega)
      · obtain rfl : k = ns.length := by omega
        go_wp2
        go_ret
        exact ⟨by rw [ckE_yes (validB_good HL.out (fun i x hx => hok i x (List.getElem?_eq_some_iff.1 hx).1 hx))]; rfl, hB0⟩
  · have hl' : inR ns.length 1 8 = false := by simpa using hl
    have hv : validB ns = false := by simp [validB, hl']
    have HV := Lib.hid hv
    have HL := Lib.hid hl'
    clear hv hl hl'
    go_enter Try.func47, Try.ntmps47
    go_wp2_with (go_at_call 71; refine (within2_is _ _ _ _ _ HL.out).mono ?_; rintro e w' ⟨rfl, rfl⟩)
    go_ret
    exact ⟨by rw [ckE_no HV.out]; rfl, (Below.refl _ _).alloc (Nat.le_refl _) _⟩
end Go.Proofs.Ytohoonbbjkefaaa
