import Derived.Test.YtgemmmdcpbajoaaVM
namespace Go.Proofs.Ytgemmmdcpbajoaa
open Go.RowKit

/-! Stock and Buy. -/
theorem ints_capm {W : World} {base : Nat} {A : Option Addr} {n c : Nat} {l : List Int} (h : Ints W base (.slice A n c) l) : c ≤ 9223372036854775807 := by
  rcases h.2 with ⟨e, _⟩ | ⟨g, cap, cur, e, _, _, _, h5, _⟩
  · cases e; omega
  · cases e; unfold maxLen at h5; omega
theorem Copied.cap3 {W : World} {n0 n1 n2 : Nat} {L : HL} {h : House} (H : Copied W n0 n1 n2 L h) : h.bs.length ≤ L.cb ∧ (L.Ab = none → L.cb = 0) ∧ L.cb ≤ 9223372036854775807 := ⟨H.cap.1, H.cap.2, ints_capm H.b⟩
set_option maxRecDepth 100000 in
set_option maxHeartbeats 4000000 in
theorem stock_law (L : HL) (h : House) (hok : HLOK L h) (much : Int) (w : World) (hH : HouseAt w w.heap.size L h) :
    Calls Try.prog 3 #[L.enc h, .int .i64 much] w fun e w' => e = .returned (.bool true) ∧ Below w.heap.size w w' := by
  have hbw := (Below.refl w.heap.size w).alloc (Nat.le_refl _) (.cells #[.slice L.Ak h.ks.length L.ck, .int .i64 h.fl, .slice L.Ap h.ps.length L.cp, .slice L.Ab h.bs.length L.cb] 26)
  have HB := Lib.hid (HBox.new w L h)
  have hc0 := (HBox.new w L h).cells
  obtain ⟨W0, hW0⟩ : ∃ W0, w.alloc (.cells #[.slice L.Ak h.ks.length L.ck, .int .i64 h.fl, .slice L.Ap h.ps.length L.cp, .slice L.Ab h.bs.length L.cb] 26) = W0 := ⟨_, rfl⟩
  rw [hW0] at hbw HB hc0
  have HU := Lib.hid (far_any L h W0 (hH.below hbw))
  have HBW := Lib.hid hbw
  have HW0 := Lib.hid hW0
  have HH := Lib.hid (hH.below hbw)
  have HO := Lib.hid hok
  clear hbw hW0 hH hok
  cases hh : farB h
  · have hn : h.ks.length ≤ 40 ∧ h.ps.length ≤ 40 ∧ h.bs.length ≤ 40 := huge_no (by cases e : hugeB h; rfl; simp [farB, e] at hh)
    have HN := Lib.hid (show h.ks.length ≤ 1000 ∧ h.ps.length ≤ 1000 ∧ h.bs.length ≤ 1000 by omega)
    have HH' := Lib.hid hh
    clear hh hn
    obtain ⟨Ak, ck, Ap, cp, Ab, cb⟩ := L
    go_enter Try.func3, Try.ntmps3
    go_upto_region 1 with (fail)
    have e := HW0.out
    rw [e]
    clear e
    go_wp2_with (first
      | (go_at_call 15; refine (HU.out).mono ?_; rintro e w1 ⟨rfl, hb1⟩; rw [HH'.out]; have HB1 := Lib.hid hb1; have hc1 := (HB.out.of (hb1.block _ HB.out.lt)).cells; clear hb1)
      | (go_at_call 17; refine (copy_any _ h HN.out HO.out w1 (HH.out.below HB1.out)).mono ?_; rintro e w2 ⟨⟨⟨Bk, dk, Bp, dp, Bb, db⟩, n1, n2, rfl, hC⟩, hb2⟩; have HCAP := Lib.hid hC.cap3; have M2 := Lib.hid (LawM.new ((HH.out.below HB1.out).below hb2) ((HB.out.of (HB1.out.block _ HB.out.lt)).of (hb2.block _ (Nat.lt_of_lt_of_le HB.out.lt HB1.out.size))) hC.house); have m2 := M2.out.c; have hz2 := (hb0to HB1.out hb2); have B2 := Lib.hid (hz2.alloc hz2.size (.cells #[.slice Bk h.ks.length dk, .int .i64 h.fl, .slice Bp h.ps.length dp, .slice Bb h.bs.length db] 26)); clear hC hb2 hz2)
      | (go_at_call 18; refine (stock_any2 ⟨Bk, dk, Bp, dp, Bb, db⟩ h HN.out much _ M2.out.O).mono ?_; rintro e w3 ⟨rfl, hb3⟩; have M3 := Lib.hid (M2.out.next hb3); have m3 := M3.out.c; have B3 := Lib.hid (hb0to B2.out hb3); clear hb3)
      | (go_at_call 19; refine (rStock_any ⟨Ak, ck, Ap, cp, Ab, cb⟩ h HN.out much _ M3.out.H).mono ?_; rintro e w4 ⟨rfl, hb4⟩; have M4 := Lib.hid (M3.out.next hb4); have m4 := M4.out.c; have B4 := Lib.hid (hb0to B3.out hb4); clear hb4)
      | (go_at_call 20; refine (buy_any ⟨Bk, dk, Bp, dp, Bb, db⟩ h HN.out HCAP.out _ M4.out.O).mono ?_; rintro e w5 ⟨rfl, hb5⟩; have M5 := Lib.hid (M4.out.next hb5); have m5 := M5.out.c; have B5 := Lib.hid (hb0to B4.out hb5); clear hb5)
      | (go_at_call 21; refine (rBuy_any ⟨Ak, ck, Ap, cp, Ab, cb⟩ h HN.out HO.out _ M5.out.H).mono ?_; rintro e w6 ⟨rfl, hb6⟩; have M6 := Lib.hid (M5.out.next hb6); have m6 := M6.out.c; have B6 := Lib.hid (hb0to B5.out hb6); clear hb6)
      | (go_at_call 22; refine (same_is ⟨Bk, dk, Bp, dp, Bb, db⟩ ⟨Ak, ck, Ap, cp, Ab, cb⟩ h HN.out w6 M6.out.O M6.out.H).mono ?_; rintro e w10 ⟨rfl, hb10⟩; have B10 := Lib.hid (hb0to B6.out hb10); clear hb10)
      | (go_at_call 16; refine (works_any w10).mono ?_; rintro e w11 ⟨rfl, hb11⟩; have B11 := Lib.hid (hb0to B10.out hb11); clear hb11))
    go_ret
    exact ⟨rfl, hb0to HBW.out B11.out⟩
  · have HH' := Lib.hid hh
    clear hh
    obtain ⟨Ak, ck, Ap, cp, Ab, cb⟩ := L
    go_enter Try.func3, Try.ntmps3
    go_upto_region 1 with (fail)
    have e := HW0.out
    rw [e]
    clear e
    go_wp2_with (first
      | (go_at_call 15; refine (HU.out).mono ?_; rintro e w1 ⟨rfl, hb1⟩; rw [HH'.out]; have HB1 := Lib.hid hb1; clear hb1)
      | (go_at_call 16; refine (works_any w1).mono ?_; rintro e w2 ⟨rfl, hb2⟩; have B2 := Lib.hid (hb0to HB1.out hb2); clear hb2))
    go_ret
    exact ⟨rfl, hb0to HBW.out B2.out⟩
end Go.Proofs.Ytgemmmdcpbajoaa
