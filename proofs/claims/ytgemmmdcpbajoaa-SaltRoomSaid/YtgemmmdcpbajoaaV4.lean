import Derived.Test.YtgemmmdcpbajoaaV2
namespace Go.Proofs.Ytgemmmdcpbajoaa
open Go.RowKit

theorem least_any2 (L : HL) (h : House) (hn : h.ks.length ≤ 1000 ∧ h.ps.length ≤ 1000 ∧ h.bs.length ≤ 1000) (w : World) (hH : HouseAt w w.heap.size L h) :
    Calls Try.prog 36 #[L.enc h] w fun e w' => e = .returned (.tuple #[.int .i64 (leastS h).1, .int .i64 (leastS h).2]) ∧ Below w.heap.size w w' := by
  rw [← least_eq]; exact least_any L h hn w hH
theorem fewest_any2 (L : HL) (h : House) (hn : h.ks.length ≤ 1000 ∧ h.ps.length ≤ 1000 ∧ h.bs.length ≤ 1000) (w : World) (hH : HouseAt w w.heap.size L h) :
    Calls Try.prog 40 #[L.enc h] w fun e w' => e = .returned (.tuple #[.int .i64 (fewS h).1, .int .i64 (fewS h).2]) ∧ Below w.heap.size w w' := by
  rw [← few_eq]; exact fewest_any L h hn w hH
theorem pack_any2 (L : HL) (h : House) (hn : h.ks.length ≤ 1000 ∧ h.ps.length ≤ 1000 ∧ h.bs.length ≤ 1000) (w : World) (hH : HouseAt w w.heap.size L h) :
    Calls Try.prog 38 #[L.enc h] w fun e w' => LRet (packS h) w.heap.size w' e ∧ Below w.heap.size w w' :=
  (pack_any L h hn w hH).mono fun _ _ ⟨h1, h2⟩ => ⟨pack_to h1, h2⟩
theorem early_any2 (day : Int) (L : HL) (h : House) (hn : h.ks.length ≤ 1000 ∧ h.ps.length ≤ 1000 ∧ h.bs.length ≤ 1000) (w : World) (hH : HouseAt w w.heap.size L h) :
    Calls Try.prog 45 #[L.enc h, .int .i64 day] w fun e w' => e = .returned (.tuple #[.int .i64 (earlyS h day).1, .int .i64 (earlyS h day).2]) ∧ Below w.heap.size w w' := by
  rw [← early_eq]; exact early_any day L h hn w hH
theorem where_any2 (L : HL) (h : House) (hn : h.ks.length ≤ 1000 ∧ h.ps.length ≤ 1000 ∧ h.bs.length ≤ 1000) (part : Int) (w : World) (hH : HouseAt w w.heap.size L h) :
    Calls Try.prog 53 #[L.enc h, .int .i64 part] w fun e w' => ListRet (rWhereS h part) w.heap.size w' e ∧ Below w.heap.size w w' := by
  rw [← where_eq]; exact where_any L h hn part w hH
theorem spare_any2 (L : HL) (h : House) (hn : h.ks.length ≤ 1000 ∧ h.ps.length ≤ 1000 ∧ h.bs.length ≤ 1000) (w : World) (hH : HouseAt w w.heap.size L h) :
    Calls Try.prog 56 #[L.enc h] w fun e w' => ListRet (rSpareS h) w.heap.size w' e ∧ Below w.heap.size w w' := by
  rw [← spare_eq]; exact spare_any L h hn w hH
theorem stock_any2 (L : HL) (h : House) (hn : h.ks.length ≤ 1000 ∧ h.ps.length ≤ 1000 ∧ h.bs.length ≤ 1000) (much : Int) (w : World) (hH : HouseAt w w.heap.size L h) :
    Calls Try.prog 18 #[L.enc h, .int .i64 much] w fun e w' => e = .returned (.tuple #[.int .i64 (rStockS h much).1, .int .i64 (rStockS h much).2]) ∧ Below w.heap.size w w' := by
  rw [← stock_eq]; exact stock_any L h hn much w hH
theorem packS_len (h : House) : (packS h).1.length ≤ 1000 := by
  unfold packS
  by_cases hv : validH h = false
  · rw [if_pos hv]; simp
  · rw [if_neg hv]
    have hV := HOK.ofValid (h := h) (by simpa using hv)
    cases hb : bestOf (packF h) (packsL h) with
    | none => simp
    | some q =>
      obtain ⟨p, m⟩ := q
      have := (mem_packsL (bestOf_some hb).2.1).1
      have := hV.pl
      simp only
      omega
/-- The memory of a law: the house as it came, and its copy. -/
structure LawM (W : World) (s bo : Nat) (L Lo : HL) (h : House) : Prop where
  H : HouseAt W W.heap.size L h
  x : HBox W s L h
  O : HouseAt W W.heap.size Lo h
  y : HBox W bo Lo h
theorem LawM.next {W W' : World} {s bo : Nat} {L Lo : HL} {h : House} (M : LawM W s bo L Lo h) (hb : Below W.heap.size W W') : LawM W' s bo L Lo h :=
  ⟨M.H.below hb, M.x.of (hb.block _ M.x.lt), M.O.below hb, M.y.of (hb.block _ M.y.lt)⟩
theorem LawM.c {W : World} {s bo : Nat} {L Lo : HL} {h : House} (M : LawM W s bo L Lo h) : (W.cell? ⟨s, 0, none⟩ = some (.slice L.Ak h.ks.length L.ck) ∧ W.cell? ⟨s, 1, none⟩ = some (.int .i64 h.fl) ∧ W.cell? ⟨s, 2, none⟩ = some (.slice L.Ap h.ps.length L.cp) ∧ W.cell? ⟨s, 3, none⟩ = some (.slice L.Ab h.bs.length L.cb)) ∧
    (W.cell? ⟨bo, 0, none⟩ = some (.slice Lo.Ak h.ks.length Lo.ck) ∧ W.cell? ⟨bo, 1, none⟩ = some (.int .i64 h.fl) ∧ W.cell? ⟨bo, 2, none⟩ = some (.slice Lo.Ap h.ps.length Lo.cp) ∧ W.cell? ⟨bo, 3, none⟩ = some (.slice Lo.Ab h.bs.length Lo.cb)) := ⟨M.x.cells, M.y.cells⟩
theorem LawM.new {W : World} {s : Nat} {L Lo : HL} {h : House} (H : HouseAt W W.heap.size L h) (x : HBox W s L h) (O : HouseAt W W.heap.size Lo h) :
    LawM (W.alloc (.cells #[.slice Lo.Ak h.ks.length Lo.ck, .int .i64 h.fl, .slice Lo.Ap h.ps.length Lo.cp, .slice Lo.Ab h.bs.length Lo.cb] 26)) s W.heap.size L Lo h := by
  have hb := (Below.refl _ W).alloc (Nat.le_refl _) (.cells #[.slice Lo.Ak h.ks.length Lo.ck, .int .i64 h.fl, .slice Lo.Ap h.ps.length Lo.cp, .slice Lo.Ab h.bs.length Lo.cb] 26)
  exact ⟨H.below hb, x.of (hb.block _ x.lt), O.below hb, HBox.new W Lo h⟩
set_option maxRecDepth 100000 in
set_option maxHeartbeats 4000000 in
theorem least_law (L : HL) (h : House) (hok : HLOK L h) (w : World) (hH : HouseAt w w.heap.size L h) :
    Calls Try.prog 6 #[L.enc h] w fun e w' => e = .returned (.bool true) ∧ Below w.heap.size w w' := by
  have hbw := (Below.refl w.heap.size w).alloc (Nat.le_refl _) (.cells #[.slice L.Ak h.ks.length L.ck, .int .i64 h.fl, .slice L.Ap h.ps.length L.cp, .slice L.Ab h.bs.length L.cb] 26)
  have HB := Lib.hid (HBox.new w L h)
  have hc0 := (HBox.new w L h).cells
  obtain ⟨W0, hW0⟩ : ∃ W0, w.alloc (.cells #[.slice L.Ak h.ks.length L.ck, .int .i64 h.fl, .slice L.Ap h.ps.length L.cp, .slice L.Ab h.bs.length L.cb] 26) = W0 := ⟨_, rfl⟩
  rw [hW0] at hbw HB hc0
  have HU := Lib.hid (far_any L h W0 (hH.below hbw))
  have HBW := Lib.hid hbw
  have HW0 := Lib.hid hW0
  have HH := Lib.hid (hH.below hbw)
  have HO := Lib.hid hok
  clear hbw hW0 hH hok
  cases hh : farB h
  · have hn : h.ks.length ≤ 40 ∧ h.ps.length ≤ 40 ∧ h.bs.length ≤ 40 := huge_no (by cases e : hugeB h; rfl; simp [farB, e] at hh)
    have HN := Lib.hid (show h.ks.length ≤ 1000 ∧ h.ps.length ≤ 1000 ∧ h.bs.length ≤ 1000 by omega)
    have HH' := Lib.hid hh
    clear hh hn
    obtain ⟨Ak, ck, Ap, cp, Ab, cb⟩ := L
    go_enter Try.func6, Try.ntmps6
    go_upto_region 1 with (fail)
    have e := HW0.out
    rw [e]
    clear e
    go_wp2_with (first
      | (go_at_call 15; refine (HU.out).mono ?_; rintro e w1 ⟨rfl, hb1⟩; rw [HH'.out]; have HB1 := Lib.hid hb1; have hc1 := (HB.out.of (hb1.block _ HB.out.lt)).cells; clear hb1)
      | (go_at_call 17; refine (copy_any _ h HN.out HO.out w1 (HH.out.below HB1.out)).mono ?_; rintro e w2 ⟨⟨⟨Bk, dk, Bp, dp, Bb, db⟩, n1, n2, rfl, hC⟩, hb2⟩; have M2 := Lib.hid (LawM.new ((HH.out.below HB1.out).below hb2) ((HB.out.of (HB1.out.block _ HB.out.lt)).of (hb2.block _ (Nat.lt_of_lt_of_le HB.out.lt HB1.out.size))) hC.house); have m2 := M2.out.c; have hz2 := (hb0to HB1.out hb2); have B2 := Lib.hid (hz2.alloc hz2.size (.cells #[.slice Bk h.ks.length dk, .int .i64 h.fl, .slice Bp h.ps.length dp, .slice Bb h.bs.length db] 26)); clear hC hb2 hz2)
      | (go_at_call 36; refine (least_any2 ⟨Bk, dk, Bp, dp, Bb, db⟩ h HN.out _ M2.out.O).mono ?_; rintro e w3 ⟨rfl, hb3⟩; have M3 := Lib.hid (M2.out.next hb3); have m3 := M3.out.c; have B3 := Lib.hid (hb0to B2.out hb3); clear hb3)
      | (go_at_call 37; refine (rLeast_any ⟨Ak, ck, Ap, cp, Ab, cb⟩ h HN.out _ M3.out.H).mono ?_; rintro e w4 ⟨rfl, hb4⟩; have M4 := Lib.hid (M3.out.next hb4); have m4 := M4.out.c; have B4 := Lib.hid (hb0to B3.out hb4); clear hb4)
      | (go_at_call 38; refine (pack_any2 ⟨Bk, dk, Bp, dp, Bb, db⟩ h HN.out _ M4.out.O).mono ?_; rintro e w5 ⟨⟨Ar, cr, rfl, -, hI⟩, hb5⟩; have I5 := Lib.hid hI.at_; have M5 := Lib.hid (M4.out.next hb5); have m5 := M5.out.c; have B5 := Lib.hid (hb0to B4.out hb5); clear hb5 hI)
      | (go_at_call 39; refine (rPack_any ⟨Ak, ck, Ap, cp, Ab, cb⟩ h HN.out _ M5.out.H).mono ?_; rintro e w6 ⟨⟨At, ct, rfl, -, hI⟩, hb6⟩; have I6 := Lib.hid (ints_later I5.out hb6); have J6 := Lib.hid hI.at_; have M6 := Lib.hid (M5.out.next hb6); have m6 := M6.out.c; have B6 := Lib.hid (hb0to B5.out hb6); clear hb6 hI)
      | (go_at_call 40; refine (fewest_any2 ⟨Bk, dk, Bp, dp, Bb, db⟩ h HN.out _ M6.out.O).mono ?_; rintro e w7 ⟨rfl, hb7⟩; have M7 := Lib.hid (M6.out.next hb7); have m7 := M7.out.c; have B7 := Lib.hid (hb0to B6.out hb7); have I7 := Lib.hid (ints_later I6.out hb7); have J7 := Lib.hid (ints_later J6.out hb7); clear hb7)
      | (go_at_call 41; refine (rFewest_any ⟨Ak, ck, Ap, cp, Ab, cb⟩ h HN.out _ M7.out.H).mono ?_; rintro e w8 ⟨rfl, hb8⟩; have M8 := Lib.hid (M7.out.next hb8); have m8 := M8.out.c; have B8 := Lib.hid (hb0to B7.out hb8); have I8 := Lib.hid (ints_later I7.out hb8); have J8 := Lib.hid (ints_later J7.out hb8); clear hb8)
      | (go_at_call 35; refine (sameInts_is Ar At cr ct (packS h).1 (packS_len h) w8 I8.out J8.out).mono ?_; rintro e w9 ⟨rfl, hb9⟩; have M9 := Lib.hid (M8.out.next hb9); have m9 := M9.out.c; have B9 := Lib.hid (hb0to B8.out hb9); clear hb9)
      | (go_at_call 22; refine (same_is ⟨Bk, dk, Bp, dp, Bb, db⟩ ⟨Ak, ck, Ap, cp, Ab, cb⟩ h HN.out w9 M9.out.O M9.out.H).mono ?_; rintro e w10 ⟨rfl, hb10⟩; have B10 := Lib.hid (hb0to B9.out hb10); clear hb10)
      | (go_at_call 16; refine (works_any w10).mono ?_; rintro e w11 ⟨rfl, hb11⟩; have B11 := Lib.hid (hb0to B10.out hb11); clear hb11))
    go_ret
    exact ⟨rfl, hb0to HBW.out B11.out⟩
  · have HH' := Lib.hid hh
    clear hh
    obtain ⟨Ak, ck, Ap, cp, Ab, cb⟩ := L
    go_enter Try.func6, Try.ntmps6
    go_upto_region 1 with (fail)
    have e := HW0.out
    rw [e]
    clear e
    go_wp2_with (first
      | (go_at_call 15; refine (HU.out).mono ?_; rintro e w1 ⟨rfl, hb1⟩; rw [HH'.out]; have HB1 := Lib.hid hb1; clear hb1)
      | (go_at_call 16; refine (works_any w1).mono ?_; rintro e w2 ⟨rfl, hb2⟩; have B2 := Lib.hid (hb0to HB1.out hb2); clear hb2))
    go_ret
    exact ⟨rfl, hb0to HBW.out B2.out⟩
end Go.Proofs.Ytgemmmdcpbajoaa
