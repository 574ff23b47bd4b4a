import Derived.Test.YtgjpllmmpclgaaaG9
namespace Go.Proofs.Ytgjpllmmpclgaaa
open Go.RowKit

/-! LiftsOrder. -/
set_option maxRecDepth 100000 in
set_option maxHeartbeats 4000000 in
theorem order_no (L : SL) (s : Sea) (xp xb : Int) (r : Bool) (hc : (r = false) ∨ (r = true ∧ xp < xb ∧ xp ≤ xb ∧ xp < 0) ∨ (r = true ∧ xp < xb ∧ xp ≤ xb ∧ 0 ≤ xp ∧ 100 < xb) ∨ (r = true ∧ xb < xp ∧ xb ≤ xp ∧ xb < 0) ∨ (r = true ∧ xb < xp ∧ xb ≤ xp ∧ 0 ≤ xb ∧ 100 < xp) ∨ (r = true ∧ xp = xb ∧ xp < 0) ∨ (r = true ∧ xp = xb ∧ 0 ≤ xp ∧ 100 < xp))
    (HR : Hid (∀ W, SeaAt W W.heap.size L s → Calls Try.prog 16 #[L.enc s] W fun e w' => e = .returned (.bool r) ∧ Below W.heap.size W w')) (w : World) (hH : SeaAt w w.heap.size L s) :
    Calls Try.prog 7 #[L.enc s, .int .i64 xp, .int .i64 xb] w fun e w' => e = .returned (.bool true) ∧ Below w.heap.size w w' := by
  have hM := TurnM.new hH
  obtain ⟨W0, hW0⟩ : ∃ W0, w.alloc (.cells #[.int .i64 s.wl, .int .i64 s.wh, .slice L.Ap s.ps.length L.cp, .slice L.Ab s.bs.length L.cb] 27) = W0 := ⟨_, rfl⟩
  rw [hW0] at hM
  have HW0 := Lib.hid hW0
  have M0 := Lib.hid hM
  obtain ⟨c0, c1, c2, c3⟩ := M0.out.x.cells
  clear hW0 hM hH
  obtain ⟨Ap, cp, Ab, cb⟩ := L
  rcases hc with rfl | ⟨rfl, h1, h2, h3⟩ | ⟨rfl, h1, h2, h3, h4⟩ | ⟨rfl, h1, h2, h3⟩ | ⟨rfl, h1, h2, h3, h4⟩ | ⟨rfl, rfl, h3⟩ | ⟨rfl, rfl, h3, h4⟩
  all_goals
    as_aux_lemma =>
    go_enter Try.func7, Try.ntmps7
    go_upto_region 1 with (fail)
    have e := HW0.out
    rw [e]
    clear e
    go_wp2_with (first
      | (go_at_call 16; refine (HR.out W0 M0.out.sea).mono ?_; rintro e w1 ⟨rfl, hb1⟩; have M1 := Lib.hid (M0.out.next hb1); obtain ⟨r0, r1, r2, r3⟩ := M1.out.x.cells; clear hb1)
      | (go_at_call 17; refine (works_any w1).mono ?_; rintro e w2 ⟨rfl, hb2⟩; have M2 := Lib.hid (M1.out.next hb2); clear hb2))
    go_ret
    exact ⟨rfl, M2.out.B⟩
theorem order_law (L : SL) (s : Sea) (hok : SLOK L s) (xp xb : Int) (w : World) (hH : SeaAt w w.heap.size L s) :
    Calls Try.prog 7 #[L.enc s, .int .i64 xp, .int .i64 xb] w fun e w' => e = .returned (.bool true) ∧ Below w.heap.size w w' := by
  have HR := Lib.hid (fun W (hW : SeaAt W W.heap.size L s) => ready_any L s W hW)
  by_cases hv : validS s = true
  · rw [hv] at HR
    have hS := SOK.ofValid hv
    by_cases h0 : 0 ≤ xp ∧ xp ≤ 100 ∧ 0 ≤ xb ∧ xb ≤ 100
    · obtain ⟨q, hq1, hq2⟩ := rot_ex s.ps.length xp
      obtain ⟨r, hr1, hr2⟩ := rot_ex s.bs.length xb
      obtain ⟨t1, t2⟩ := turn_same hv hq1 hr1
      have ho := valid_turn hv hq1 hr1
      have H36 := Lib.hid (fun (L2 : SL) (g : Sea) (hg : g = s ∨ g = turnS s q r) W (hW : SeaAt W W.heap.size L2 g) => show Calls Try.prog 36 #[L2.enc g] W fun e w' => e = .returned (.tuple #[.int .i64 (cheapW s), .bool true]) ∧ Below W.heap.size W w' by
        rcases hg with rfl | rfl
        · exact cheapW_any L2 _ hv W hW
        · rw [← t2]; exact cheapW_any L2 _ ho W hW)
      have H34 := Lib.hid (fun (L2 : SL) (g : Sea) (hg : g = s ∨ g = turnS s q r) W (hW : SeaAt W W.heap.size L2 g) => show Calls Try.prog 34 #[L2.enc g] W fun e w' => e = .returned (.tuple #[.int .i64 (mostS s), .bool true]) ∧ Below W.heap.size W w' by
        rcases hg with rfl | rfl
        · exact mostW_any L2 _ hv W hW
        · rw [← t1]; exact mostW_any L2 _ ho W hW)
      by_cases h1 : xp < xb
      · exact order_lt L s hS hok xp xb h1 h0 q r hq1 hr1 (Lib.hid hq2) (Lib.hid hr2) _ _ HR H36 H34 w hH
      · by_cases h2 : xb < xp
        · exact order_gt L s hS hok xp xb h2 h0 q r hq1 hr1 (Lib.hid hq2) (Lib.hid hr2) _ _ HR H36 H34 w hH
        · obtain rfl : xp = xb := by omega
          exact order_eq L s hS hok xp h0 q r hq1 hr1 (Lib.hid hq2) (Lib.hid hr2) _ _ HR H36 H34 w hH
    · refine order_no L s xp xb true ?_ HR w hH
      simp only [true_and, Bool.true_eq_false, false_or]
      omega
  · rw [show validS s = false by simpa using hv] at HR
    exact order_no L s xp xb false (.inl rfl) HR w hH
end Go.Proofs.Ytgjpllmmpclgaaa
