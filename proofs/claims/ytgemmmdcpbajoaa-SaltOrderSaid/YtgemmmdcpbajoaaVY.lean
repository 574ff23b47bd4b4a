import Derived.Test.YtgemmmdcpbajoaaVX
namespace Go.Proofs.Ytgemmmdcpbajoaa
open Go.RowKit

set_option maxRecDepth 100000 in
set_option maxHeartbeats 4000000 in
theorem order_no (L : HL) (hu : House) (xb xp xd xs : Int) (r : Bool) (hc : (r = false) ∨ (r = true ∧ xb < xp ∧ xb ≤ xp ∧ xb < 0) ∨ (r = true ∧ xb < xp ∧ xb ≤ xp ∧ 0 ≤ xb ∧ 100 < xp) ∨ (r = true ∧ xp < xb ∧ xp ≤ xb ∧ xp < 0) ∨ (r = true ∧ xp < xb ∧ xp ≤ xb ∧ 0 ≤ xp ∧ 100 < xb) ∨ (r = true ∧ xb = xp ∧ xp < 0) ∨ (r = true ∧ xb = xp ∧ 0 ≤ xp ∧ 100 < xp))
    (HR : Hid (∀ W, HouseAt W W.heap.size L hu → Calls Try.prog 23 #[L.enc hu] W fun e w' => e = .returned (.bool r) ∧ Below W.heap.size W w')) (w : World) (hH : HouseAt w w.heap.size L hu) :
    Calls Try.prog 8 #[L.enc hu, .agg #[.int .i64 xb, .int .i64 xp, .int .i64 xd, .int .i64 xs]] w fun e w' => e = .returned (.bool true) ∧ Below w.heap.size w w' := by
  obtain ⟨W0, hW0, hM⟩ := TurnM.new (L := L) xb xp xd xs hH
  have HW0 := Lib.hid hW0
  have M0 := Lib.hid hM
  have hc0 := hM.c
  clear hW0 hM hH
  obtain ⟨Ak, ck, Ap, cp, Ab, cb⟩ := L
  rcases hc with rfl | ⟨rfl, h1, h2, h3⟩ | ⟨rfl, h1, h2, h3, h4⟩ | ⟨rfl, h1, h2, h3⟩ | ⟨rfl, h1, h2, h3, h4⟩ | ⟨rfl, rfl, h3⟩ | ⟨rfl, rfl, h3, h4⟩
  all_goals
    as_aux_lemma =>
    go_enter Try.func8, Try.ntmps8
    go_upto_region 1 with (fail)
    have e := HW0.out
    rw [e]
    clear e
    go_wp2_with (first
      | (go_at_call 23; refine (HR.out W0 M0.out.house).mono ?_; rintro e w1 ⟨rfl, hb1⟩; have M1 := Lib.hid (M0.out.next hb1); have m1 := M1.out.c; clear hb1)
      | (go_at_call 16; refine (works_any w1).mono ?_; rintro e w2 ⟨rfl, hb2⟩; have M2 := Lib.hid (M1.out.next hb2); clear hb2))
    go_ret
    exact ⟨rfl, M2.out.B⟩
theorem order_law (L : HL) (h : House) (hok : HLOK L h) (hcb : h.bs.length ≤ L.cb ∧ L.cb ≤ 9223372036854775807) (xb xp xd xs : Int) (w : World) (hH : HouseAt w w.heap.size L h) :
    Calls Try.prog 8 #[L.enc h, .agg #[.int .i64 xb, .int .i64 xp, .int .i64 xd, .int .i64 xs]] w fun e w' => e = .returned (.bool true) ∧ Below w.heap.size w w' := by
  by_cases hr : readyB h = true
  · have hv := (ready_far hr).2
    have hV := HOK.ofValid hv
    have hn := valid_1000 hv
    have HR := Lib.hid (fun W (hW : HouseAt W W.heap.size L h) => by have := ready_any L h W hW; rwa [hr] at this)
    by_cases h0 : 0 ≤ xb ∧ xb ≤ 100 ∧ 0 ≤ xp ∧ xp ≤ 100
    · obtain ⟨r, hr1, hr2⟩ := rot_ex h.bs.length xb
      obtain ⟨q, hq1, hq2⟩ := rot_ex h.ps.length xp
      obtain ⟨t1, t2, t3, t4, t5, t6⟩ := turn_plain hv hr1 hq1
      have ho := valid_turn hv r q
      have hn2 := valid_1000 ho
      have H44 := Lib.hid (fun (L2 : HL) (g : House) (hg : g = h ∨ g = turnH h r q) W (hW : HouseAt W W.heap.size L2 g) => show Calls Try.prog 44 #[L2.enc g] W fun e w' => e = .returned (.tuple #[.int .i64 (leastS h).1, .int .i64 (fewS h).1, .bool (isB h), .bool false]) ∧ Below W.heap.size W w' by
        rcases hg with rfl | rfl
        · exact both_any L2 _ hv W hW
        · rw [t1, t2, t3]; exact both_any L2 _ ho W hW)
      have H45 := Lib.hid (fun (L2 : HL) (g : House) (hg : g = h ∨ g = turnH h r q) W (hW : HouseAt W W.heap.size L2 g) => show Calls Try.prog 45 #[L2.enc g, .int .i64 xd] W fun e w' => e = .returned (.tuple #[.int .i64 (earlyS h xd).1, .int .i64 (earlyS h xd).2]) ∧ Below W.heap.size W w' by
        rcases hg with rfl | rfl
        · exact early_any2 xd L2 _ hn W hW
        · rw [t4]; exact early_any2 xd L2 _ hn2 W hW)
      have H18 := Lib.hid (fun (L2 : HL) (g : House) (hg : g = h ∨ g = turnH h r q) W (hW : HouseAt W W.heap.size L2 g) => show Calls Try.prog 18 #[L2.enc g, .int .i64 xs] W fun e w' => e = .returned (.tuple #[.int .i64 (rStockS h xs).1, .int .i64 (rStockS h xs).2]) ∧ Below W.heap.size W w' by
        rcases hg with rfl | rfl
        · exact stock_any2 L2 _ hn xs W hW
        · rw [t5]; exact stock_any2 L2 _ hn2 xs W hW)
      have H20 := Lib.hid (fun (L2 : HL) (g : House) (hg : g = h ∨ g = turnH h r q) (hc : g.bs.length ≤ L2.cb ∧ (L2.Ab = none → L2.cb = 0) ∧ L2.cb ≤ 9223372036854775807) W (hW : HouseAt W W.heap.size L2 g) => show Calls Try.prog 20 #[L2.enc g] W fun e w' => e = .returned (.tuple #[.int .i64 (buyRet h).1, .int .i64 (buyRet h).2]) ∧ Below W.heap.size W w' by
        rcases hg with rfl | rfl
        · exact buy_any L2 _ hn hc W hW
        · rw [t6]; exact buy_any L2 _ hn2 hc W hW)
      have hc2 : h.bs.length ≤ L.cb ∧ (L.Ab = none → L.cb = 0) ∧ L.cb ≤ 9223372036854775807 := ⟨hcb.1, fun e => (hok.b e).1, hcb.2⟩
      by_cases h1 : xb < xp
      · exact order_lt L h hV hok xb xp xd xs h1 h0 r q hr1 hq1 (Lib.hid hr2) (Lib.hid hq2) _ _ _ _ _ _ _ _ _ HR H44 H45 H18 H20 hc2 w hH
      · by_cases h2 : xp < xb
        · exact order_gt L h hV hok xb xp xd xs h2 h0 r q hr1 hq1 (Lib.hid hr2) (Lib.hid hq2) _ _ _ _ _ _ _ _ _ HR H44 H45 H18 H20 hc2 w hH
        · obtain rfl : xb = xp := by omega
          exact order_eq L h hV hok xb xd xs h0 r q hr1 hq1 (Lib.hid hr2) (Lib.hid hq2) _ _ _ _ _ _ _ _ _ HR H44 H45 H18 H20 hc2 w hH
    · refine order_no L h xb xp xd xs true ?_ HR w hH
      simp only [true_and, Bool.true_eq_false, false_or]
      omega
  · exact order_no L h xb xp xd xs false (.inl rfl) (Lib.hid (fun W hW => by have := ready_any L h W hW; rwa [show readyB h = false by simpa using hr] at this)) w hH
end Go.Proofs.Ytgemmmdcpbajoaa
