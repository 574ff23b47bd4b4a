import Derived.Test.YtgemmmdcpbajoaaV8
namespace Go.Proofs.Ytgemmmdcpbajoaa
open Go.RowKit

/-- The memory of a law without a copy. -/
structure LawN (W : World) (s : Nat) (L : HL) (h : House) : Prop where
  H : HouseAt W W.heap.size L h
  x : HBox W s L h
theorem LawN.next {W W' : World} {s : Nat} {L : HL} {h : House} (M : LawN W s L h) (hb : Below W.heap.size W W') : LawN W' s L h :=
  ⟨M.H.below hb, M.x.of (hb.block _ M.x.lt)⟩
theorem LawN.c {W : World} {s : Nat} {L : HL} {h : House} (M : LawN W s L h) : W.cell? ⟨s, 0, none⟩ = some (.slice L.Ak h.ks.length L.ck) ∧ W.cell? ⟨s, 1, none⟩ = some (.int .i64 h.fl) ∧ W.cell? ⟨s, 2, none⟩ = some (.slice L.Ap h.ps.length L.cp) ∧ W.cell? ⟨s, 3, none⟩ = some (.slice L.Ab h.bs.length L.cb) := M.x.cells
theorem LawN.new {w : World} {L : HL} {h : House} (hH : HouseAt w w.heap.size L h) : ∃ W0, w.alloc (.cells #[.slice L.Ak h.ks.length L.ck, .int .i64 h.fl, .slice L.Ap h.ps.length L.cp, .slice L.Ab h.bs.length L.cb] 26) = W0 ∧ LawN W0 w.heap.size L h ∧ Below w.heap.size w W0 := by
  have hbw := (Below.refl w.heap.size w).alloc (Nat.le_refl _) (.cells #[.slice L.Ak h.ks.length L.ck, .int .i64 h.fl, .slice L.Ap h.ps.length L.cp, .slice L.Ab h.bs.length L.cb] 26)
  exact ⟨_, rfl, ⟨hH.below hbw, HBox.new w L h⟩, hbw⟩
theorem valid_1000 {h : House} (hv : validH h = true) : h.ks.length ≤ 1000 ∧ h.ps.length ≤ 1000 ∧ h.bs.length ≤ 1000 := by
  have hV := HOK.ofValid hv
  exact ⟨by have := hV.kl; omega, by have := hV.pl; omega, by have := hV.bl; omega⟩
set_option maxRecDepth 100000 in
set_option maxHeartbeats 1000000 in
theorem later_1n (L : HL) (h : House) (hr : readyB h = true) (one other : Int) (h1 : inR one 0 20 = true) (h2 : inR other 0 20 = true) (hle : one < other) (hp : isB h = false ∧ (earlyS h one).2 = 3 ∧ (earlyS h other).2 = 3 ∧ (earlyS h 20).2 = 3) (w : World) (hH : HouseAt w w.heap.size L h) :
    Calls Try.prog 11 #[L.enc h, .int .i64 one, .int .i64 other] w fun e w' => e = .returned (.bool true) ∧ Below w.heap.size w w' := by
  obtain ⟨W0, hW0, hM, hbw⟩ := LawN.new hH
  have hv := (ready_far hr).2
  have hle' : one ≤ other := by omega
  have HR := Lib.hid (ready_any L h W0 hM.H)
  have HBW := Lib.hid hbw
  have HW0 := Lib.hid hW0
  have HM := Lib.hid hM
  have hc0 := hM.c
  have HRB := Lib.hid hr
  have HB44 := Lib.hid (both_any L h hv)
  have HE1 := Lib.hid (early_any2 one L h (valid_1000 hv))
  have HE2 := Lib.hid (early_any2 other L h (valid_1000 hv))
  have HE3 := Lib.hid (early_any2 20 L h (valid_1000 hv))
  have HA := Lib.hid (all_any47 L h (HOK.ofValid hv))
  have H1 := Lib.hid h1
  have H2 := Lib.hid h2
  obtain ⟨p0, p1, p2, p3⟩ := hp
  rw [p0] at HB44
  rw [p1] at HE1
  rw [p2] at HE2
  rw [p3] at HE3
  clear hW0 hM hbw hH hr hv h1 h2 p0 p1 p2 p3 HA
  obtain ⟨a1, ha1⟩ : ∃ x, x = (earlyS h one).1 := ⟨_, rfl⟩
  obtain ⟨b1, hb1⟩ : ∃ x, x = (earlyS h other).1 := ⟨_, rfl⟩
  obtain ⟨c1, hc1⟩ : ∃ x, x = (earlyS h 20).1 := ⟨_, rfl⟩
  rw [← ha1] at HE1
  rw [← hb1] at HE2
  rw [← hc1] at HE3
  clear ha1 hb1 hc1
  obtain ⟨Ak, ck, Ap, cp, Ab, cb⟩ := L
  go_enter Try.func11, Try.ntmps11
  go_upto_region 1 with (fail)
  have e := HW0.out
  rw [e]
  clear e
  go_wp2_with (first
    | (go_at_call 23; refine (HR.out).mono ?_; rintro e w1 ⟨rfl, hb1⟩; rw [HRB.out]; have M1 := Lib.hid (HM.out.next hb1); have B1 := Lib.hid hb1; have m1 := M1.out.c; clear hb1)
    | (go_at_call 50; (with_reducible refine (rIsDay_any one _).mono ?_); rintro e w' ⟨rfl, rfl⟩; rw [H1.out])
    | (go_at_call 50; (with_reducible refine (rIsDay_any other _).mono ?_); rintro e w' ⟨rfl, rfl⟩; rw [H2.out])
    | (go_at_call 44; refine (HB44.out w1 M1.out.H).mono ?_; rintro e w2 ⟨rfl, hb2⟩; have M2 := Lib.hid (M1.out.next hb2); have B2 := Lib.hid (hb0to B1.out hb2); have m2 := M2.out.c; clear hb2)
    | (go_at_call 45; (with_reducible refine (HE3.out w4 M4.out.H).mono ?_); rintro e w5 ⟨rfl, hb5⟩; have M5 := Lib.hid (M4.out.next hb5); have B5 := Lib.hid (hb0to B4.out hb5); have m5 := M5.out.c; clear hb5)
    | (go_at_call 45; (with_reducible refine (HE2.out w3 M3.out.H).mono ?_); rintro e w4 ⟨rfl, hb4⟩; have M4 := Lib.hid (M3.out.next hb4); have B4 := Lib.hid (hb0to B3.out hb4); have m4 := M4.out.c; clear hb4)
    | (go_at_call 45; (with_reducible refine (HE1.out w2 M2.out.H).mono ?_); rintro e w3 ⟨rfl, hb3⟩; have M3 := Lib.hid (M2.out.next hb3); have B3 := Lib.hid (hb0to B2.out hb3); have m3 := M3.out.c; clear hb3)
    | (go_at_call 16; refine (works_any w5).mono ?_; rintro e w7 ⟨rfl, hb7⟩; have B7 := Lib.hid (hb0to B5.out hb7); clear hb7))
  go_ret
  exact ⟨rfl, hb0to HBW.out B7.out⟩
set_option maxRecDepth 100000 in
set_option maxHeartbeats 1000000 in
theorem later_2n (L : HL) (h : House) (hr : readyB h = true) (one other : Int) (h1 : inR one 0 20 = true) (h2 : inR other 0 20 = true) (hle : other < one) (hp : isB h = false ∧ (earlyS h other).2 = 3 ∧ (earlyS h one).2 = 3 ∧ (earlyS h 20).2 = 3) (w : World) (hH : HouseAt w w.heap.size L h) :
    Calls Try.prog 11 #[L.enc h, .int .i64 one, .int .i64 other] w fun e w' => e = .returned (.bool true) ∧ Below w.heap.size w w' := by
  obtain ⟨W0, hW0, hM, hbw⟩ := LawN.new hH
  have hv := (ready_far hr).2
  have hle' : other ≤ one := by omega
  have HR := Lib.hid (ready_any L h W0 hM.H)
  have HBW := Lib.hid hbw
  have HW0 := Lib.hid hW0
  have HM := Lib.hid hM
  have hc0 := hM.c
  have HRB := Lib.hid hr
  have HB44 := Lib.hid (both_any L h hv)
  have HE1 := Lib.hid (early_any2 other L h (valid_1000 hv))
  have HE2 := Lib.hid (early_any2 one L h (valid_1000 hv))
  have HE3 := Lib.hid (early_any2 20 L h (valid_1000 hv))
  have HA := Lib.hid (all_any47 L h (HOK.ofValid hv))
  have H1 := Lib.hid h1
  have H2 := Lib.hid h2
  obtain ⟨p0, p1, p2, p3⟩ := hp
  rw [p0] at HB44
  rw [p1] at HE1
  rw [p2] at HE2
  rw [p3] at HE3
  clear hW0 hM hbw hH hr hv h1 h2 p0 p1 p2 p3 HA
  obtain ⟨a1, ha1⟩ : ∃ x, x = (earlyS h other).1 := ⟨_, rfl⟩
  obtain ⟨b1, hb1⟩ : ∃ x, x = (earlyS h one).1 := ⟨_, rfl⟩
  obtain ⟨c1, hc1⟩ : ∃ x, x = (earlyS h 20).1 := ⟨_, rfl⟩
  rw [← ha1] at HE1
  rw [← hb1] at HE2
  rw [← hc1] at HE3
  clear ha1 hb1 hc1
  obtain ⟨Ak, ck, Ap, cp, Ab, cb⟩ := L
  go_enter Try.func11, Try.ntmps11
  go_upto_region 1 with (fail)
  have e := HW0.out
  rw [e]
  clear e
  go_wp2_with (first
    | (go_at_call 23; refine (HR.out).mono ?_; rintro e w1 ⟨rfl, hb1⟩; rw [HRB.out]; have M1 := Lib.hid (HM.out.next hb1); have B1 := Lib.hid hb1; have m1 := M1.out.c; clear hb1)
    | (go_at_call 50; (with_reducible refine (rIsDay_any one _).mono ?_); rintro e w' ⟨rfl, rfl⟩; rw [H1.out])
    | (go_at_call 50; (with_reducible refine (rIsDay_any other _).mono ?_); rintro e w' ⟨rfl, rfl⟩; rw [H2.out])
    | (go_at_call 44; refine (HB44.out w1 M1.out.H).mono ?_; rintro e w2 ⟨rfl, hb2⟩; have M2 := Lib.hid (M1.out.next hb2); have B2 := Lib.hid (hb0to B1.out hb2); have m2 := M2.out.c; clear hb2)
    | (go_at_call 45; (with_reducible refine (HE3.out w4 M4.out.H).mono ?_); rintro e w5 ⟨rfl, hb5⟩; have M5 := Lib.hid (M4.out.next hb5); have B5 := Lib.hid (hb0to B4.out hb5); have m5 := M5.out.c; clear hb5)
    | (go_at_call 45; (with_reducible refine (HE2.out w3 M3.out.H).mono ?_); rintro e w4 ⟨rfl, hb4⟩; have M4 := Lib.hid (M3.out.next hb4); have B4 := Lib.hid (hb0to B3.out hb4); have m4 := M4.out.c; clear hb4)
    | (go_at_call 45; (with_reducible refine (HE1.out w2 M2.out.H).mono ?_); rintro e w3 ⟨rfl, hb3⟩; have M3 := Lib.hid (M2.out.next hb3); have B3 := Lib.hid (hb0to B2.out hb3); have m3 := M3.out.c; clear hb3)
    | (go_at_call 16; refine (works_any w5).mono ?_; rintro e w7 ⟨rfl, hb7⟩; have B7 := Lib.hid (hb0to B5.out hb7); clear hb7))
  go_ret
  exact ⟨rfl, hb0to HBW.out B7.out⟩
set_option maxRecDepth 100000 in
set_option maxHeartbeats 1000000 in
theorem later_1y (L : HL) (h : House) (hr : readyB h = true) (one other : Int) (h1 : inR one 0 20 = true) (h2 : inR other 0 20 = true) (hle : one < other) (hp : isB h = true ∧ (earlyS h one).2 = 0 ∧ (earlyS h other).2 = 0 ∧ (earlyS h 20).2 = 0 ∧ 0 ≤ (earlyS h one).1 ∧ (earlyS h one).1 ≤ (earlyS h other).1 ∧ (earlyS h other).1 ≤ (earlyS h 20).1 ∧ (earlyS h 20).1 = allP h h.ps.length) (w : World) (hH : HouseAt w w.heap.size L h) :
    Calls Try.prog 11 #[L.enc h, .int .i64 one, .int .i64 other] w fun e w' => e = .returned (.bool true) ∧ Below w.heap.size w w' := by
  obtain ⟨W0, hW0, hM, hbw⟩ := LawN.new hH
  have hv := (ready_far hr).2
  have hle' : one ≤ other := by omega
  have HR := Lib.hid (ready_any L h W0 hM.H)
  have HBW := Lib.hid hbw
  have HW0 := Lib.hid hW0
  have HM := Lib.hid hM
  have hc0 := hM.c
  have HRB := Lib.hid hr
  have HB44 := Lib.hid (both_any L h hv)
  have HE1 := Lib.hid (early_any2 one L h (valid_1000 hv))
  have HE2 := Lib.hid (early_any2 other L h (valid_1000 hv))
  have HE3 := Lib.hid (early_any2 20 L h (valid_1000 hv))
  have HA := Lib.hid (all_any47 L h (HOK.ofValid hv))
  have H1 := Lib.hid h1
  have H2 := Lib.hid h2
  obtain ⟨p0, p1, p2, p3, q0, q1, q2, q3⟩ := hp
  rw [p0] at HB44
  rw [p1] at HE1
  rw [p2] at HE2
  rw [p3] at HE3
  rw [← q3] at HA
  clear hW0 hM hbw hH hr hv h1 h2 p0 p1 p2 p3 q3
  obtain ⟨a1, ha1⟩ : ∃ x, x = (earlyS h one).1 := ⟨_, rfl⟩
  obtain ⟨b1, hb1⟩ : ∃ x, x = (earlyS h other).1 := ⟨_, rfl⟩
  obtain ⟨c1, hc1⟩ : ∃ x, x = (earlyS h 20).1 := ⟨_, rfl⟩
  rw [← ha1] at HE1 q0 q1
  rw [← hb1] at HE2 q1 q2
  rw [← hc1] at HE3 HA q2
  clear ha1 hb1 hc1
  obtain ⟨Ak, ck, Ap, cp, Ab, cb⟩ := L
  go_enter Try.func11, Try.ntmps11
  go_upto_region 1 with (fail)
  have e := HW0.out
  rw [e]
  clear e
  go_wp2_with (first
    | (go_at_call 23; refine (HR.out).mono ?_; rintro e w1 ⟨rfl, hb1⟩; rw [HRB.out]; have M1 := Lib.hid (HM.out.next hb1); have B1 := Lib.hid hb1; have m1 := M1.out.c; clear hb1)
    | (go_at_call 50; (with_reducible refine (rIsDay_any one _).mono ?_); rintro e w' ⟨rfl, rfl⟩; rw [H1.out])
    | (go_at_call 50; (with_reducible refine (rIsDay_any other _).mono ?_); rintro e w' ⟨rfl, rfl⟩; rw [H2.out])
    | (go_at_call 44; refine (HB44.out w1 M1.out.H).mono ?_; rintro e w2 ⟨rfl, hb2⟩; have M2 := Lib.hid (M1.out.next hb2); have B2 := Lib.hid (hb0to B1.out hb2); have m2 := M2.out.c; clear hb2)
    | (go_at_call 45; (with_reducible refine (HE3.out w4 M4.out.H).mono ?_); rintro e w5 ⟨rfl, hb5⟩; have M5 := Lib.hid (M4.out.next hb5); have B5 := Lib.hid (hb0to B4.out hb5); have m5 := M5.out.c; clear hb5)
    | (go_at_call 45; (with_reducible refine (HE2.out w3 M3.out.H).mono ?_); rintro e w4 ⟨rfl, hb4⟩; have M4 := Lib.hid (M3.out.next hb4); have B4 := Lib.hid (hb0to B3.out hb4); have m4 := M4.out.c; clear hb4)
    | (go_at_call 45; (with_reducible refine (HE1.out w2 M2.out.H).mono ?_); rintro e w3 ⟨rfl, hb3⟩; have M3 := Lib.hid (M2.out.next hb3); have B3 := Lib.hid (hb0to B2.out hb3); have m3 := M3.out.c; clear hb3)
    | (go_at_call 47; refine (HA.out w5 M5.out.H).mono ?_; rintro e w6 ⟨rfl, hb6⟩; have B6 := Lib.hid (hb0to B5.out hb6); clear hb6)
    | (go_at_call 16; refine (works_any w6).mono ?_; rintro e w7 ⟨rfl, hb7⟩; have B7 := Lib.hid (hb0to B6.out hb7); clear hb7))
  go_ret
  exact ⟨rfl, hb0to HBW.out B7.out⟩
set_option maxRecDepth 100000 in
set_option maxHeartbeats 1000000 in
theorem later_2y (L : HL) (h : House) (hr : readyB h = true) (one other : Int) (h1 : inR one 0 20 = true) (h2 : inR other 0 20 = true) (hle : other < one) (hp : isB h = true ∧ (earlyS h other).2 = 0 ∧ (earlyS h one).2 = 0 ∧ (earlyS h 20).2 = 0 ∧ 0 ≤ (earlyS h other).1 ∧ (earlyS h other).1 ≤ (earlyS h one).1 ∧ (earlyS h one).1 ≤ (earlyS h 20).1 ∧ (earlyS h 20).1 = allP h h.ps.length) (w : World) (hH : HouseAt w w.heap.size L h) :
    Calls Try.prog 11 #[L.enc h, .int .i64 one, .int .i64 other] w fun e w' => e = .returned (.bool true) ∧ Below w.heap.size w w' := by
  obtain ⟨W0, hW0, hM, hbw⟩ := LawN.new hH
  have hv := (ready_far hr).2
  have hle' : other ≤ one := by omega
  have HR := Lib.hid (ready_any L h W0 hM.H)
  have HBW := Lib.hid hbw
  have HW0 := Lib.hid hW0
  have HM := Lib.hid hM
  have hc0 := hM.c
  have HRB := Lib.hid hr
  have HB44 := Lib.hid (both_any L h hv)
  have HE1 := Lib.hid (early_any2 other L h (valid_1000 hv))
  have HE2 := Lib.hid (early_any2 one L h (valid_1000 hv))
  have HE3 := Lib.hid (early_any2 20 L h (valid_1000 hv))
  have HA := Lib.hid (all_any47 L h (HOK.ofValid hv))
  have H1 := Lib.hid h1
  have H2 := Lib.hid h2
  obtain ⟨p0, p1, p2, p3, q0, q1, q2, q3⟩ := hp
  rw [p0] at HB44
  rw [p1] at HE1
  rw [p2] at HE2
  rw [p3] at HE3
  rw [← q3] at HA
  clear hW0 hM hbw hH hr hv h1 h2 p0 p1 p2 p3 q3
  obtain ⟨a1, ha1⟩ : ∃ x, x = (earlyS h other).1 := ⟨_, rfl⟩
  obtain ⟨b1, hb1⟩ : ∃ x, x = (earlyS h one).1 := ⟨_, rfl⟩
  obtain ⟨c1, hc1⟩ : ∃ x, x = (earlyS h 20).1 := ⟨_, rfl⟩
  rw [← ha1] at HE1 q0 q1
  rw [← hb1] at HE2 q1 q2
  rw [← hc1] at HE3 HA q2
  clear ha1 hb1 hc1
  obtain ⟨Ak, ck, Ap, cp, Ab, cb⟩ := L
  go_enter Try.func11, Try.ntmps11
  go_upto_region 1 with (fail)
  have e := HW0.out
  rw [e]
  clear e
  go_wp2_with (first
    | (go_at_call 23; refine (HR.out).mono ?_; rintro e w1 ⟨rfl, hb1⟩; rw [HRB.out]; have M1 := Lib.hid (HM.out.next hb1); have B1 := Lib.hid hb1; have m1 := M1.out.c; clear hb1)
    | (go_at_call 50; (with_reducible refine (rIsDay_any one _).mono ?_); rintro e w' ⟨rfl, rfl⟩; rw [H1.out])
    | (go_at_call 50; (with_reducible refine (rIsDay_any other _).mono ?_); rintro e w' ⟨rfl, rfl⟩; rw [H2.out])
    | (go_at_call 44; refine (HB44.out w1 M1.out.H).mono ?_; rintro e w2 ⟨rfl, hb2⟩; have M2 := Lib.hid (M1.out.next hb2); have B2 := Lib.hid (hb0to B1.out hb2); have m2 := M2.out.c; clear hb2)
    | (go_at_call 45; (with_reducible refine (HE3.out w4 M4.out.H).mono ?_); rintro e w5 ⟨rfl, hb5⟩; have M5 := Lib.hid (M4.out.next hb5); have B5 := Lib.hid (hb0to B4.out hb5); have m5 := M5.out.c; clear hb5)
    | (go_at_call 45; (with_reducible refine (HE2.out w3 M3.out.H).mono ?_); rintro e w4 ⟨rfl, hb4⟩; have M4 := Lib.hid (M3.out.next hb4); have B4 := Lib.hid (hb0to B3.out hb4); have m4 := M4.out.c; clear hb4)
    | (go_at_call 45; (with_reducible refine (HE1.out w2 M2.out.H).mono ?_); rintro e w3 ⟨rfl, hb3⟩; have M3 := Lib.hid (M2.out.next hb3); have B3 := Lib.hid (hb0to B2.out hb3); have m3 := M3.out.c; clear hb3)
    | (go_at_call 47; refine (HA.out w5 M5.out.H).mono ?_; rintro e w6 ⟨rfl, hb6⟩; have B6 := Lib.hid (hb0to B5.out hb6); clear hb6)
    | (go_at_call 16; refine (works_any w6).mono ?_; rintro e w7 ⟨rfl, hb7⟩; have B7 := Lib.hid (hb0to B6.out hb7); clear hb7))
  go_ret
  exact ⟨rfl, hb0to HBW.out B7.out⟩
set_option maxRecDepth 100000 in
set_option maxHeartbeats 1000000 in
theorem later_3n (L : HL) (h : House) (hr : readyB h = true) (one : Int) (h1 : inR one 0 20 = true) (h2 : inR one 0 20 = true) (hle : one ≤ one) (hp : isB h = false ∧ (earlyS h one).2 = 3 ∧ (earlyS h one).2 = 3 ∧ (earlyS h 20).2 = 3) (w : World) (hH : HouseAt w w.heap.size L h) :
    Calls Try.prog 11 #[L.enc h, .int .i64 one, .int .i64 one] w fun e w' => e = .returned (.bool true) ∧ Below w.heap.size w w' := by
  obtain ⟨W0, hW0, hM, hbw⟩ := LawN.new hH
  have hv := (ready_far hr).2
  have hle' : one ≤ one := by omega
  have HR := Lib.hid (ready_any L h W0 hM.H)
  have HBW := Lib.hid hbw
  have HW0 := Lib.hid hW0
  have HM := Lib.hid hM
  have hc0 := hM.c
  have HRB := Lib.hid hr
  have HB44 := Lib.hid (both_any L h hv)
  have HE1 := Lib.hid (early_any2 one L h (valid_1000 hv))
  have HE2 := Lib.hid (early_any2 one L h (valid_1000 hv))
  have HE3 := Lib.hid (early_any2 20 L h (valid_1000 hv))
  have HA := Lib.hid (all_any47 L h (HOK.ofValid hv))
  have H1 := Lib.hid h1
  have H2 := Lib.hid h2
  obtain ⟨p0, p1, p2, p3⟩ := hp
  rw [p0] at HB44
  rw [p1] at HE1
  rw [p2] at HE2
  rw [p3] at HE3
  clear hW0 hM hbw hH hr hv h1 h2 p0 p1 p2 p3 HA
  obtain ⟨a1, ha1⟩ : ∃ x, x = (earlyS h one).1 := ⟨_, rfl⟩
  obtain ⟨c1, hc1⟩ : ∃ x, x = (earlyS h 20).1 := ⟨_, rfl⟩
  rw [← ha1] at HE1 HE2
  rw [← hc1] at HE3
  clear ha1 hc1
  obtain ⟨Ak, ck, Ap, cp, Ab, cb⟩ := L
  go_enter Try.func11, Try.ntmps11
  go_upto_region 1 with (fail)
  have e := HW0.out
  rw [e]
  clear e
  go_wp2_with (first
    | (go_at_call 23; refine (HR.out).mono ?_; rintro e w1 ⟨rfl, hb1⟩; rw [HRB.out]; have M1 := Lib.hid (HM.out.next hb1); have B1 := Lib.hid hb1; have m1 := M1.out.c; clear hb1)
    | (go_at_call 50; (with_reducible refine (rIsDay_any one _).mono ?_); rintro e w' ⟨rfl, rfl⟩; rw [H1.out])
    | (go_at_call 50; (with_reducible refine (rIsDay_any one _).mono ?_); rintro e w' ⟨rfl, rfl⟩; rw [H2.out])
    | (go_at_call 44; refine (HB44.out w1 M1.out.H).mono ?_; rintro e w2 ⟨rfl, hb2⟩; have M2 := Lib.hid (M1.out.next hb2); have B2 := Lib.hid (hb0to B1.out hb2); have m2 := M2.out.c; clear hb2)
    | (go_at_call 45; (with_reducible refine (HE3.out w4 M4.out.H).mono ?_); rintro e w5 ⟨rfl, hb5⟩; have M5 := Lib.hid (M4.out.next hb5); have B5 := Lib.hid (hb0to B4.out hb5); have m5 := M5.out.c; clear hb5)
    | (go_at_call 45; (with_reducible refine (HE2.out w3 M3.out.H).mono ?_); rintro e w4 ⟨rfl, hb4⟩; have M4 := Lib.hid (M3.out.next hb4); have B4 := Lib.hid (hb0to B3.out hb4); have m4 := M4.out.c; clear hb4)
    | (go_at_call 45; (with_reducible refine (HE1.out w2 M2.out.H).mono ?_); rintro e w3 ⟨rfl, hb3⟩; have M3 := Lib.hid (M2.out.next hb3); have B3 := Lib.hid (hb0to B2.out hb3); have m3 := M3.out.c; clear hb3)
    | (go_at_call 16; refine (works_any w5).mono ?_; rintro e w7 ⟨rfl, hb7⟩; have B7 := Lib.hid (hb0to B5.out hb7); clear hb7))
  go_ret
  exact ⟨rfl, hb0to HBW.out B7.out⟩
set_option maxRecDepth 100000 in
set_option maxHeartbeats 1000000 in
theorem later_3y (L : HL) (h : House) (hr : readyB h = true) (one : Int) (h1 : inR one 0 20 = true) (h2 : inR one 0 20 = true) (hle : one ≤ one) (hp : isB h = true ∧ (earlyS h one).2 = 0 ∧ (earlyS h one).2 = 0 ∧ (earlyS h 20).2 = 0 ∧ 0 ≤ (earlyS h one).1 ∧ (earlyS h one).1 ≤ (earlyS h one).1 ∧ (earlyS h one).1 ≤ (earlyS h 20).1 ∧ (earlyS h 20).1 = allP h h.ps.length) (w : World) (hH : HouseAt w w.heap.size L h) :
    Calls Try.prog 11 #[L.enc h, .int .i64 one, .int .i64 one] w fun e w' => e = .returned (.bool true) ∧ Below w.heap.size w w' := by
  obtain ⟨W0, hW0, hM, hbw⟩ := LawN.new hH
  have hv := (ready_far hr).2
  have hle' : one ≤ one := by omega
  have HR := Lib.hid (ready_any L h W0 hM.H)
  have HBW := Lib.hid hbw
  have HW0 := Lib.hid hW0
  have HM := Lib.hid hM
  have hc0 := hM.c
  have HRB := Lib.hid hr
  have HB44 := Lib.hid (both_any L h hv)
  have HE1 := Lib.hid (early_any2 one L h (valid_1000 hv))
  have HE2 := Lib.hid (early_any2 one L h (valid_1000 hv))
  have HE3 := Lib.hid (early_any2 20 L h (valid_1000 hv))
  have HA := Lib.hid (all_any47 L h (HOK.ofValid hv))
  have H1 := Lib.hid h1
  have H2 := Lib.hid h2
  obtain ⟨p0, p1, p2, p3, q0, q1, q2, q3⟩ := hp
  rw [p0] at HB44
  rw [p1] at HE1
  rw [p2] at HE2
  rw [p3] at HE3
  rw [← q3] at HA
  clear hW0 hM hbw hH hr hv h1 h2 p0 p1 p2 p3 q3
  obtain ⟨a1, ha1⟩ : ∃ x, x = (earlyS h one).1 := ⟨_, rfl⟩
  obtain ⟨c1, hc1⟩ : ∃ x, x = (earlyS h 20).1 := ⟨_, rfl⟩
  rw [← ha1] at HE1 HE2 q0 q1 q2
  rw [← hc1] at HE3 HA q2
  clear ha1 hc1
  obtain ⟨Ak, ck, Ap, cp, Ab, cb⟩ := L
  go_enter Try.func11, Try.ntmps11
  go_upto_region 1 with (fail)
  have e := HW0.out
  rw [e]
  clear e
  go_wp2_with (first
    | (go_at_call 23; refine (HR.out).mono ?_; rintro e w1 ⟨rfl, hb1⟩; rw [HRB.out]; have M1 := Lib.hid (HM.out.next hb1); have B1 := Lib.hid hb1; have m1 := M1.out.c; clear hb1)
    | (go_at_call 50; (with_reducible refine (rIsDay_any one _).mono ?_); rintro e w' ⟨rfl, rfl⟩; rw [H1.out])
    | (go_at_call 50; (with_reducible refine (rIsDay_any one _).mono ?_); rintro e w' ⟨rfl, rfl⟩; rw [H2.out])
    | (go_at_call 44; refine (HB44.out w1 M1.out.H).mono ?_; rintro e w2 ⟨rfl, hb2⟩; have M2 := Lib.hid (M1.out.next hb2); have B2 := Lib.hid (hb0to B1.out hb2); have m2 := M2.out.c; clear hb2)
    | (go_at_call 45; (with_reducible refine (HE3.out w4 M4.out.H).mono ?_); rintro e w5 ⟨rfl, hb5⟩; have M5 := Lib.hid (M4.out.next hb5); have B5 := Lib.hid (hb0to B4.out hb5); have m5 := M5.out.c; clear hb5)
    | (go_at_call 45; (with_reducible refine (HE2.out w3 M3.out.H).mono ?_); rintro e w4 ⟨rfl, hb4⟩; have M4 := Lib.hid (M3.out.next hb4); have B4 := Lib.hid (hb0to B3.out hb4); have m4 := M4.out.c; clear hb4)
    | (go_at_call 45; (with_reducible refine (HE1.out w2 M2.out.H).mono ?_); rintro e w3 ⟨rfl, hb3⟩; have M3 := Lib.hid (M2.out.next hb3); have B3 := Lib.hid (hb0to B2.out hb3); have m3 := M3.out.c; clear hb3)
    | (go_at_call 47; refine (HA.out w5 M5.out.H).mono ?_; rintro e w6 ⟨rfl, hb6⟩; have B6 := Lib.hid (hb0to B5.out hb6); clear hb6)
    | (go_at_call 16; refine (works_any w6).mono ?_; rintro e w7 ⟨rfl, hb7⟩; have B7 := Lib.hid (hb0to B6.out hb7); clear hb7))
  go_ret
  exact ⟨rfl, hb0to HBW.out B7.out⟩
set_option maxRecDepth 100000 in
set_option maxHeartbeats 4000000 in
theorem later_law (L : HL) (h : House) (one other : Int) (w : World) (hH : HouseAt w w.heap.size L h) :
    Calls Try.prog 11 #[L.enc h, .int .i64 one, .int .i64 other] w fun e w' => e = .returned (.bool true) ∧ Below w.heap.size w w' := by
  cases hr : readyB h
  · obtain ⟨W0, hW0, hM, hbw⟩ := LawN.new hH
    have HR := Lib.hid (ready_any L h W0 hM.H)
    have HBW := Lib.hid hbw
    have HW0 := Lib.hid hW0
    have HRB := Lib.hid hr
    have hc0 := hM.c
    clear hW0 hM hbw hH hr
    obtain ⟨Ak, ck, Ap, cp, Ab, cb⟩ := L
    go_enter Try.func11, Try.ntmps11
    go_upto_region 1 with (fail)
    have e := HW0.out
    rw [e]
    clear e
    go_wp2_with (first
      | (go_at_call 23; refine (HR.out).mono ?_; rintro e w1 ⟨rfl, hb1⟩; rw [HRB.out]; have B1 := Lib.hid hb1; clear hb1)
      | (go_at_call 16; refine (works_any w1).mono ?_; rintro e w7 ⟨rfl, hb7⟩; have B7 := Lib.hid (hb0to B1.out hb7); clear hb7))
    go_ret
    exact ⟨rfl, hb0to HBW.out B7.out⟩
  · have hv := (ready_far hr).2
    cases h1 : inR one 0 20
    · obtain ⟨W0, hW0, hM, hbw⟩ := LawN.new hH
      have HR := Lib.hid (ready_any L h W0 hM.H)
      have HBW := Lib.hid hbw
      have HW0 := Lib.hid hW0
      have HRB := Lib.hid hr
      have H1 := Lib.hid h1
      have hc0 := hM.c
      clear hW0 hM hbw hH hr hv h1
      obtain ⟨Ak, ck, Ap, cp, Ab, cb⟩ := L
      go_enter Try.func11, Try.ntmps11
      go_upto_region 1 with (fail)
      have e := HW0.out
      rw [e]
      clear e
      go_wp2_with (first
        | (go_at_call 23; refine (HR.out).mono ?_; rintro e w1 ⟨rfl, hb1⟩; rw [HRB.out]; have B1 := Lib.hid hb1; clear hb1)
        | (go_at_call 50; (with_reducible refine (rIsDay_any one _).mono ?_); rintro e w' ⟨rfl, rfl⟩; rw [H1.out])
        | (go_at_call 16; refine (works_any w1).mono ?_; rintro e w7 ⟨rfl, hb7⟩; have B7 := Lib.hid (hb0to B1.out hb7); clear hb7))
      go_ret
      exact ⟨rfl, hb0to HBW.out B7.out⟩
    · cases h2 : inR other 0 20
      · obtain ⟨W0, hW0, hM, hbw⟩ := LawN.new hH
        have HR := Lib.hid (ready_any L h W0 hM.H)
        have HBW := Lib.hid hbw
        have HW0 := Lib.hid hW0
        have HRB := Lib.hid hr
        have H1 := Lib.hid h1
        have H2 := Lib.hid h2
        have hc0 := hM.c
        clear hW0 hM hbw hH hr hv h1 h2
        obtain ⟨Ak, ck, Ap, cp, Ab, cb⟩ := L
        go_enter Try.func11, Try.ntmps11
        go_upto_region 1 with (fail)
        have e := HW0.out
        rw [e]
        clear e
        go_wp2_with (first
          | (go_at_call 23; refine (HR.out).mono ?_; rintro e w1 ⟨rfl, hb1⟩; rw [HRB.out]; have B1 := Lib.hid hb1; clear hb1)
          | (go_at_call 50; (with_reducible refine (rIsDay_any one _).mono ?_); rintro e w' ⟨rfl, rfl⟩; rw [H1.out])
          | (go_at_call 50; (with_reducible refine (rIsDay_any other _).mono ?_); rintro e w' ⟨rfl, rfl⟩; rw [H2.out])
          | (go_at_call 16; refine (works_any w1).mono ?_; rintro e w7 ⟨rfl, hb7⟩; have B7 := Lib.hid (hb0to B1.out hb7); clear hb7))
        go_ret
        exact ⟨rfl, hb0to HBW.out B7.out⟩
      · by_cases hle : one < other
        · rcases later_plain hv h1 h2 (by omega) with hp | hp
          · exact later_1n L h hr one other h1 h2 hle hp w hH
          · exact later_1y L h hr one other h1 h2 hle hp w hH
        · by_cases heq : one = other
          · subst heq
            rcases later_plain hv h1 h1 (Int.le_refl _) with hp | hp
            · exact later_3n L h hr one h1 h1 (Int.le_refl _) hp w hH
            · exact later_3y L h hr one h1 h1 (Int.le_refl _) hp w hH
          · rcases later_plain hv h2 h1 (by omega) with hp | hp
            · exact later_2n L h hr one other h1 h2 (by omega) hp w hH
            · exact later_2y L h hr one other h1 h2 (by omega) hp w hH
end Go.Proofs.Ytgemmmdcpbajoaa
