import Derived.Test.YtgemmmdcpbajoaaV4
namespace Go.Proofs.Ytgemmmdcpbajoaa
open Go.RowKit

theorem rWhereS_len {h : House} (hn : h.bs.length ≤ 1000) (part : Int) : (rWhereS h part).1.length ≤ 1000 := by
  unfold rWhereS
  split
  · simp
  · exact Nat.le_trans (someTo_len _ _ _) hn
theorem rSpareS_len {h : House} (hn : h.bs.length ≤ 1000) : (rSpareS h).1.length ≤ 1000 := by
  unfold rSpareS
  split
  · simp
  · exact Nat.le_trans (someTo_len _ _ _) hn
set_option maxRecDepth 100000 in
set_option maxHeartbeats 4000000 in
theorem where_law (L : HL) (h : House) (hok : HLOK L h) (part day : Int) (w : World) (hH : HouseAt w w.heap.size L h) :
    Calls Try.prog 13 #[L.enc h, .int .i64 part, .int .i64 day] w fun e w' => e = .returned (.bool true) ∧ Below w.heap.size w w' := by
  have hbw := (Below.refl w.heap.size w).alloc (Nat.le_refl _) (.cells #[.slice L.Ak h.ks.length L.ck, .int .i64 h.fl, .slice L.Ap h.ps.length L.cp, .slice L.Ab h.bs.length L.cb] 26)
  have HB := Lib.hid (HBox.new w L h)
  have hc0 := (HBox.new w L h).cells
  obtain ⟨W0, hW0⟩ : ∃ W0, w.alloc (.cells #[.slice L.Ak h.ks.length L.ck, .int .i64 h.fl, .slice L.Ap h.ps.length L.cp, .slice L.Ab h.bs.length L.cb] 26) = W0 := ⟨_, rfl⟩
  rw [hW0] at hbw HB hc0
  have HU := Lib.hid (far_any L h W0 (hH.below hbw))
  have HBW := Lib.hid hbw
  have HW0 := Lib.hid hW0
  have HH := Lib.hid (hH.below hbw)
  have HO := Lib.hid hok
  clear hbw hW0 hH hok
  cases hh : farB h
  · have hn : h.ks.length ≤ 40 ∧ h.ps.length ≤ 40 ∧ h.bs.length ≤ 40 := huge_no (by cases e : hugeB h; rfl; simp [farB, e] at hh)
    have HN := Lib.hid (show h.ks.length ≤ 1000 ∧ h.ps.length ≤ 1000 ∧ h.bs.length ≤ 1000 by omega)
    have HH' := Lib.hid hh
    clear hh hn
    obtain ⟨Ak, ck, Ap, cp, Ab, cb⟩ := L
    go_enter Try.func13, Try.ntmps13
    go_upto_region 1 with (fail)
    have e := HW0.out
    rw [e]
    clear e
    go_wp2_with (first
      | (go_at_call 15; refine (HU.out).mono ?_; rintro e w1 ⟨rfl, hb1⟩; rw [HH'.out]; have HB1 := Lib.hid hb1; have hc1 := (HB.out.of (hb1.block _ HB.out.lt)).cells; clear hb1)
      | (go_at_call 17; refine (copy_any _ h HN.out HO.out w1 (HH.out.below HB1.out)).mono ?_; rintro e w2 ⟨⟨⟨Bk, dk, Bp, dp, Bb, db⟩, n1, n2, rfl, hC⟩, hb2⟩; have M2 := Lib.hid (LawM.new ((HH.out.below HB1.out).below hb2) ((HB.out.of (HB1.out.block _ HB.out.lt)).of (hb2.block _ (Nat.lt_of_lt_of_le HB.out.lt HB1.out.size))) hC.house); have m2 := M2.out.c; have hz2 := (hb0to HB1.out hb2); have B2 := Lib.hid (hz2.alloc hz2.size (.cells #[.slice Bk h.ks.length dk, .int .i64 h.fl, .slice Bp h.ps.length dp, .slice Bb h.bs.length db] 26)); clear hC hb2 hz2)
      | (go_at_call 53; refine (where_any2 ⟨Bk, dk, Bp, dp, Bb, db⟩ h HN.out part _ M2.out.O).mono ?_; rintro e w3 ⟨⟨v, rfl, hI⟩, hb3⟩; obtain ⟨Ar, cr, rfl, -, -, hJ⟩ := hI.lay; have I3 := Lib.hid hJ.at_; have M3 := Lib.hid (M2.out.next hb3); have m3 := M3.out.c; have B3 := Lib.hid (hb0to B2.out hb3); clear hb3 hI hJ)
      | (go_at_call 54; refine (rWhere_any ⟨Ak, ck, Ap, cp, Ab, cb⟩ h HN.out part _ M3.out.H).mono ?_; rintro e w4 ⟨⟨v, rfl, hI⟩, hb4⟩; obtain ⟨At, ct, rfl, -, -, hJ⟩ := hI.lay; have I4 := Lib.hid (ints_later I3.out hb4); have J4 := Lib.hid hJ.at_; have M4 := Lib.hid (M3.out.next hb4); have m4 := M4.out.c; have B4 := Lib.hid (hb0to B3.out hb4); clear hb4 hI hJ)
      | (go_at_call 45; refine (early_any2 day ⟨Bk, dk, Bp, dp, Bb, db⟩ h HN.out _ M4.out.O).mono ?_; rintro e w5 ⟨rfl, hb5⟩; have I5 := Lib.hid (ints_later I4.out hb5); have J5 := Lib.hid (ints_later J4.out hb5); have M5 := Lib.hid (M4.out.next hb5); have m5 := M5.out.c; have B5 := Lib.hid (hb0to B4.out hb5); clear hb5)
      | (go_at_call 55; refine (rEarly_any ⟨Ak, ck, Ap, cp, Ab, cb⟩ h HN.out day _ M5.out.H).mono ?_; rintro e w6 ⟨rfl, hb6⟩; have I6 := Lib.hid (ints_later I5.out hb6); have J6 := Lib.hid (ints_later J5.out hb6); have M6 := Lib.hid (M5.out.next hb6); have m6 := M6.out.c; have B6 := Lib.hid (hb0to B5.out hb6); clear hb6)
      | (go_at_call 56; refine (spare_any2 ⟨Bk, dk, Bp, dp, Bb, db⟩ h HN.out _ M6.out.O).mono ?_; rintro e w7 ⟨⟨v, rfl, hI⟩, hb7⟩; obtain ⟨Au, cu, rfl, -, -, hJ⟩ := hI.lay; have K7 := Lib.hid hJ.at_; have M7 := Lib.hid (M6.out.next hb7); have m7 := M7.out.c; have B7 := Lib.hid (hb0to B6.out hb7); have I7 := Lib.hid (ints_later I6.out hb7); have J7 := Lib.hid (ints_later J6.out hb7); clear hb7 hI hJ)
      | (go_at_call 57; refine (rSpare_any ⟨Ak, ck, Ap, cp, Ab, cb⟩ h HN.out _ M7.out.H).mono ?_; rintro e w8 ⟨⟨v, rfl, hI⟩, hb8⟩; obtain ⟨Av, cv, rfl, -, -, hJ⟩ := hI.lay; have N8 := Lib.hid hJ.at_; have K8 := Lib.hid (ints_later K7.out hb8); have M8 := Lib.hid (M7.out.next hb8); have m8 := M8.out.c; have B8 := Lib.hid (hb0to B7.out hb8); have I8 := Lib.hid (ints_later I7.out hb8); have J8 := Lib.hid (ints_later J7.out hb8); clear hb8 hI hJ)
      | (go_at_call 35; (with_reducible refine (sameInts_is Au Av cu cv (rSpareS h).1 (rSpareS_len HN.out.2.2) w9 K9.out N9.out).mono ?_); rintro e w10 ⟨rfl, hb10⟩; have M10 := Lib.hid (M9.out.next hb10); have m10 := M10.out.c; have B10 := Lib.hid (hb0to B9.out hb10); clear hb10)
      | (go_at_call 35; (with_reducible refine (sameInts_is Ar At cr ct (rWhereS h part).1 (rWhereS_len HN.out.2.2 part) w8 I8.out J8.out).mono ?_); rintro e w9 ⟨rfl, hb9⟩; have K9 := Lib.hid (ints_later K8.out hb9); have N9 := Lib.hid (ints_later N8.out hb9); have M9 := Lib.hid (M8.out.next hb9); have m9 := M9.out.c; have B9 := Lib.hid (hb0to B8.out hb9); clear hb9)
      | (go_at_call 22; refine (same_is ⟨Bk, dk, Bp, dp, Bb, db⟩ ⟨Ak, ck, Ap, cp, Ab, cb⟩ h HN.out w10 M10.out.O M10.out.H).mono ?_; rintro e w11 ⟨rfl, hb11⟩; have B11 := Lib.hid (hb0to B10.out hb11); clear hb11)
      | (go_at_call 16; refine (works_any w11).mono ?_; rintro e w12 ⟨rfl, hb12⟩; have B12 := Lib.hid (hb0to B11.out hb12); clear hb12))
    go_ret
    exact ⟨rfl, hb0to HBW.out B12.out⟩
  · have HH' := Lib.hid hh
    clear hh
    obtain ⟨Ak, ck, Ap, cp, Ab, cb⟩ := L
    go_enter Try.func13, Try.ntmps13
    go_upto_region 1 with (fail)
    have e := HW0.out
    rw [e]
    clear e
    go_wp2_with (first
      | (go_at_call 15; refine (HU.out).mono ?_; rintro e w1 ⟨rfl, hb1⟩; rw [HH'.out]; have HB1 := Lib.hid hb1; clear hb1)
      | (go_at_call 16; refine (works_any w1).mono ?_; rintro e w2 ⟨rfl, hb2⟩; have B2 := Lib.hid (hb0to HB1.out hb2); clear hb2))
    go_ret
    exact ⟨rfl, hb0to HBW.out B2.out⟩
end Go.Proofs.Ytgemmmdcpbajoaa
