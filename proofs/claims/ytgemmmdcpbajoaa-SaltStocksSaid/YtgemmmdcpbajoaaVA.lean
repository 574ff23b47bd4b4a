import Derived.Test.YtgemmmdcpbajoaaV9
namespace Go.Proofs.Ytgemmmdcpbajoaa
open Go.RowKit

theorem take_next {l : List (Int × Int)} {k : Nat} {x : Int × Int} (h : l[k]? = some x) : l.take (k + 1) = l.take k ++ [x] := (take_snoc_next h).symm
set_option maxRecDepth 100000 in
set_option maxHeartbeats 2000000 in
theorem stocks_1A (L : HL) (h : House) (hv : HOK h) (one other : Int) (h1 : Hid (inR one 0 999 = true)) (h2 : Hid (inR other 0 999 = true)) (hle : one < other) (a1 b1 m n : Int) (q0 : 0 ≤ a1) (q1 : a1 ≤ b1) (q2 : b1 ≤ a1) (hm : m ≤ one)
    (HR : Hid (∀ W, HouseAt W W.heap.size L h → Calls Try.prog 23 #[L.enc h] W fun e w' => e = .returned (.bool true) ∧ Below W.heap.size W w'))
    (HS1 : Hid (∀ W, HouseAt W W.heap.size L h → Calls Try.prog 18 #[L.enc h, .int .i64 one] W fun e w' => e = .returned (.tuple #[.int .i64 a1, .int .i64 0]) ∧ Below W.heap.size W w'))
    (HS2 : Hid (∀ W, HouseAt W W.heap.size L h → Calls Try.prog 18 #[L.enc h, .int .i64 other] W fun e w' => e = .returned (.tuple #[.int .i64 b1, .int .i64 0]) ∧ Below W.heap.size W w'))
    (HB44 : Hid (∀ W, HouseAt W W.heap.size L h → Calls Try.prog 44 #[L.enc h] W fun e w' => e = .returned (.tuple #[.int .i64 m, .int .i64 n, .bool true, .bool false]) ∧ Below W.heap.size W w'))
    (HA : Hid (∀ W, HouseAt W W.heap.size L h → Calls Try.prog 47 #[L.enc h] W fun e w' => e = .returned (.int .i64 a1) ∧ Below W.heap.size W w')) (w : World) (hH : HouseAt w w.heap.size L h) :
    Calls Try.prog 9 #[L.enc h, .int .i64 one, .int .i64 other] w fun e w' => e = .returned (.bool true) ∧ Below w.heap.size w w' := by
  obtain ⟨W0, hW0, hM, hbw⟩ := LawN.new hH
  have hle' : one ≤ other := by omega
  have HBW := Lib.hid hbw
  have HW0 := Lib.hid hW0
  have HM := Lib.hid hM
  have HV := Lib.hid hv
  have hpl6 := hv.pl
  have hc0 := hM.c
  clear hW0 hM hbw hH hv
  obtain ⟨Ak, ck, Ap, cp, Ab, cb⟩ := L
  go_enter Try.func9, Try.ntmps9
  go_upto_region 1 with (fail)
  have e := HW0.out
  rw [e]
  clear e
  go_wp2_with (first
    | (go_at_call 23; refine (HR.out W0 HM.out.H).mono ?_; rintro e w1 ⟨rfl, hb1⟩; have M1 := Lib.hid (HM.out.next hb1); have B1 := Lib.hid hb1; have m1 := M1.out.c; clear hb1)
    | (go_at_call 46; (with_reducible refine (rIsStock_any one _).mono ?_); rintro e w' ⟨rfl, rfl⟩; rw [h1.out])
    | (go_at_call 46; (with_reducible refine (rIsStock_any other _).mono ?_); rintro e w' ⟨rfl, rfl⟩; rw [h2.out])
    | (go_at_call 18; (with_reducible refine (HS2.out w2 M2.out.H).mono ?_); rintro e w3 ⟨rfl, hb3⟩; have M3 := Lib.hid (M2.out.next hb3); have B3 := Lib.hid (hb0to B2.out hb3); have m3 := M3.out.c; clear hb3)
    | (go_at_call 18; (with_reducible refine (HS1.out w1 M1.out.H).mono ?_); rintro e w2 ⟨rfl, hb2⟩; have M2 := Lib.hid (M1.out.next hb2); have B2 := Lib.hid (hb0to B1.out hb2); have m2 := M2.out.c; clear hb2)
    | (go_at_call 44; (with_reducible refine (HB44.out w3 M3.out.H).mono ?_); rintro e w4 ⟨rfl, hb4⟩; have M4 := Lib.hid (M3.out.next hb4); have B4 := Lib.hid (hb0to B3.out hb4); have m4 := M4.out.c; clear hb4)
    | (go_at_call 47; (with_reducible refine (HA.out w4 M4.out.H).mono ?_); rintro e w5 ⟨rfl, hb5⟩; have M5 := Lib.hid (M4.out.next hb5); have B5 := Lib.hid (hb0to B4.out hb5); clear hb5))
  clear hc0 m1 m2 m3 m4
  go_loopw [15, 16] (fun s15 i wr => ∃ (k : Nat) (bz : Bool), k ≤ h.ps.length ∧ i = .int .i64 k ∧ s15 = .bool bz ∧ Hid (bz = (h.ps.take k).any fun x => decide (x.2 = 0)) ∧ Below w5.heap.size w5 wr) (fun _ i _ => h.ps.length - (intOf i).toNat)
  case atStart => exact ⟨0, false, Nat.zero_le _, rfl, rfl, Lib.hid (by simp), Below.refl _ _⟩
  case round =>
    obtain ⟨k, bz, hk, rfl, rfl, hbz, hb'⟩ := hrel
    have M8 := Lib.hid (M5.out.next hb')
    have hb := Lib.hid (hb0to B5.out hb')
    obtain ⟨g0, g1, g2, g3⟩ := M8.out.c
    by_cases hlt : k < h.ps.length
    · obtain ⟨kk, p1, p2, p3, ⟨p4, p5⟩, _⟩ := HV.out.part hlt
      obtain ⟨bp, op, e2, _, d1, d2⟩ := M8.out.H.p.at_ p1
      have HT1 := Lib.hid (take_next p1)
      clear p1 p2 p3 d1
      cases bz
      · rw [e2] at g2
        by_cases hx : (partOf h k).2 = 0
        · have HQ := Lib.hid (show true = (h.ps.take (k + 1)).any fun x => decide (x.2 = 0) by rw [HT1.out, List.any_append, ← hbz.out]; simp [hx])
          rw [hx] at d2
          clear hx p4 p5
          go_wp2
          go_roundw
          case rel => exact ⟨k + 1, true, by omega, by go_num, rfl, HQ, hb'⟩
          case measure => simp [intOf]; omega
        · have HQ := Lib.hid (show false = (h.ps.take (k + 1)).any fun x => decide (x.2 = 0) by rw [HT1.out, List.any_append, ← hbz.out]; simp [hx])
          have hx' : ((partOf h k).2 == 0) = false := beq_eq_false_iff_ne.2 hx
          go_wp2
          go_roundw
          case rel => exact ⟨k + 1, false, by omega, by go_num, rfl, HQ, hb'⟩
          case measure => simp [intOf]; omega
      · have HQ := Lib.hid (show true = (h.ps.take (k + 1)).any fun x => decide (x.2 = 0) by rw [HT1.out, List.any_append, ← hbz.out]; rfl)
        clear d2
        go_wp2
        go_roundw
        case rel => exact ⟨k + 1, true, by omega, by go_num, rfl, HQ, hb'⟩
        case measure => simp [intOf]; omega
    · obtain rfl : k = h.ps.length := by omega
      have hbe : bz = bareB h := by rw [hbz.out, List.take_length]; rfl
      have hbz2 := Lib.hid hbe
      clear hbz hbe
      cases bz
      · go_wp2_with (first
          | (go_at_call 47; (with_reducible refine (HA.out wr M8.out.H).mono ?_); rintro e w9 ⟨rfl, hb9⟩; have M9 := Lib.hid (M8.out.next hb9); have B9 := Lib.hid (hb0to hb.out hb9); have m9 := M9.out.c; clear hb9)
          | (go_at_call 47; (with_reducible refine (HA.out w9 M9.out.H).mono ?_); rintro e w10 ⟨rfl, hb10⟩; have B10 := Lib.hid (hb0to B9.out hb10); clear hb10)
          | (go_at_call 16; refine (works_any _).mono ?_; rintro e w12 ⟨rfl, hb12⟩; have B12 := Lib.hid (show Below W0.heap.size W0 w12 from (by first | exact hb0to B10.out hb12 | exact hb0to B9.out hb12 | exact hb0to hb.out hb12)); clear hb12))
        go_ret
        exact ⟨rfl, hb0to HBW.out B12.out⟩
      · go_wp2_with (first
          | (go_at_call 47; (with_reducible refine (HA.out wr M8.out.H).mono ?_); rintro e w9 ⟨rfl, hb9⟩; have M9 := Lib.hid (M8.out.next hb9); have B9 := Lib.hid (hb0to hb.out hb9); have m9 := M9.out.c; clear hb9)
          | (go_at_call 47; (with_reducible refine (HA.out w9 M9.out.H).mono ?_); rintro e w10 ⟨rfl, hb10⟩; have B10 := Lib.hid (hb0to B9.out hb10); clear hb10)
          | (go_at_call 16; refine (works_any _).mono ?_; rintro e w12 ⟨rfl, hb12⟩; have B12 := Lib.hid (show Below W0.heap.size W0 w12 from (by first | exact hb0to B10.out hb12 | exact hb0to B9.out hb12 | exact hb0to hb.out hb12)); clear hb12))
        go_ret
        exact ⟨rfl, hb0to HBW.out B12.out⟩
set_option maxRecDepth 100000 in
set_option maxHeartbeats 2000000 in
theorem stocks_1B (L : HL) (h : House) (hv : HOK h) (one other : Int) (h1 : Hid (inR one 0 999 = true)) (h2 : Hid (inR other 0 999 = true)) (hle : one < other) (a1 b1 T m n : Int) (q0 : 0 ≤ a1) (q1 : a1 ≤ b1) (q2 : b1 ≤ T) (hm : one < m) (hT : Hid (bareB h = false → a1 ≠ T))
    (HR : Hid (∀ W, HouseAt W W.heap.size L h → Calls Try.prog 23 #[L.enc h] W fun e w' => e = .returned (.bool true) ∧ Below W.heap.size W w'))
    (HS1 : Hid (∀ W, HouseAt W W.heap.size L h → Calls Try.prog 18 #[L.enc h, .int .i64 one] W fun e w' => e = .returned (.tuple #[.int .i64 a1, .int .i64 0]) ∧ Below W.heap.size W w'))
    (HS2 : Hid (∀ W, HouseAt W W.heap.size L h → Calls Try.prog 18 #[L.enc h, .int .i64 other] W fun e w' => e = .returned (.tuple #[.int .i64 b1, .int .i64 0]) ∧ Below W.heap.size W w'))
    (HB44 : Hid (∀ W, HouseAt W W.heap.size L h → Calls Try.prog 44 #[L.enc h] W fun e w' => e = .returned (.tuple #[.int .i64 m, .int .i64 n, .bool true, .bool false]) ∧ Below W.heap.size W w'))
    (HA : Hid (∀ W, HouseAt W W.heap.size L h → Calls Try.prog 47 #[L.enc h] W fun e w' => e = .returned (.int .i64 T) ∧ Below W.heap.size W w')) (w : World) (hH : HouseAt w w.heap.size L h) :
    Calls Try.prog 9 #[L.enc h, .int .i64 one, .int .i64 other] w fun e w' => e = .returned (.bool true) ∧ Below w.heap.size w w' := by
  obtain ⟨W0, hW0, hM, hbw⟩ := LawN.new hH
  have hle' : one ≤ other := by omega
  have HBW := Lib.hid hbw
  have HW0 := Lib.hid hW0
  have HM := Lib.hid hM
  have HV := Lib.hid hv
  have hpl6 := hv.pl
  have hc0 := hM.c
  clear hW0 hM hbw hH hv
  obtain ⟨Ak, ck, Ap, cp, Ab, cb⟩ := L
  go_enter Try.func9, Try.ntmps9
  go_upto_region 1 with (fail)
  have e := HW0.out
  rw [e]
  clear e
  go_wp2_with (first
    | (go_at_call 23; refine (HR.out W0 HM.out.H).mono ?_; rintro e w1 ⟨rfl, hb1⟩; have M1 := Lib.hid (HM.out.next hb1); have B1 := Lib.hid hb1; have m1 := M1.out.c; clear hb1)
    | (go_at_call 46; (with_reducible refine (rIsStock_any one _).mono ?_); rintro e w' ⟨rfl, rfl⟩; rw [h1.out])
    | (go_at_call 46; (with_reducible refine (rIsStock_any other _).mono ?_); rintro e w' ⟨rfl, rfl⟩; rw [h2.out])
    | (go_at_call 18; (with_reducible refine (HS2.out w2 M2.out.H).mono ?_); rintro e w3 ⟨rfl, hb3⟩; have M3 := Lib.hid (M2.out.next hb3); have B3 := Lib.hid (hb0to B2.out hb3); have m3 := M3.out.c; clear hb3)
    | (go_at_call 18; (with_reducible refine (HS1.out w1 M1.out.H).mono ?_); rintro e w2 ⟨rfl, hb2⟩; have M2 := Lib.hid (M1.out.next hb2); have B2 := Lib.hid (hb0to B1.out hb2); have m2 := M2.out.c; clear hb2)
    | (go_at_call 44; (with_reducible refine (HB44.out w3 M3.out.H).mono ?_); rintro e w4 ⟨rfl, hb4⟩; have M4 := Lib.hid (M3.out.next hb4); have B4 := Lib.hid (hb0to B3.out hb4); have m4 := M4.out.c; clear hb4)
    | (go_at_call 47; (with_reducible refine (HA.out w4 M4.out.H).mono ?_); rintro e w5 ⟨rfl, hb5⟩; have M5 := Lib.hid (M4.out.next hb5); have B5 := Lib.hid (hb0to B4.out hb5); clear hb5))
  clear hc0 m1 m2 m3 m4
  go_loopw [15, 16] (fun s15 i wr => ∃ (k : Nat) (bz : Bool), k ≤ h.ps.length ∧ i = .int .i64 k ∧ s15 = .bool bz ∧ Hid (bz = (h.ps.take k).any fun x => decide (x.2 = 0)) ∧ Below w5.heap.size w5 wr) (fun _ i _ => h.ps.length - (intOf i).toNat)
  case atStart => exact ⟨0, false, Nat.zero_le _, rfl, rfl, Lib.hid (by simp), Below.refl _ _⟩
  case round =>
    obtain ⟨k, bz, hk, rfl, rfl, hbz, hb'⟩ := hrel
    have M8 := Lib.hid (M5.out.next hb')
    have hb := Lib.hid (hb0to B5.out hb')
    obtain ⟨g0, g1, g2, g3⟩ := M8.out.c
    by_cases hlt : k < h.ps.length
    · obtain ⟨kk, p1, p2, p3, ⟨p4, p5⟩, _⟩ := HV.out.part hlt
      obtain ⟨bp, op, e2, _, d1, d2⟩ := M8.out.H.p.at_ p1
      have HT1 := Lib.hid (take_next p1)
      clear p1 p2 p3 d1
      cases bz
      · rw [e2] at g2
        by_cases hx : (partOf h k).2 = 0
        · have HQ := Lib.hid (show true = (h.ps.take (k + 1)).any fun x => decide (x.2 = 0) by rw [HT1.out, List.any_append, ← hbz.out]; simp [hx])
          rw [hx] at d2
          clear hx p4 p5
          go_wp2
          go_roundw
          case rel => exact ⟨k + 1, true, by omega, by go_num, rfl, HQ, hb'⟩
          case measure => simp [intOf]; omega
        · have HQ := Lib.hid (show false = (h.ps.take (k + 1)).any fun x => decide (x.2 = 0) by rw [HT1.out, List.any_append, ← hbz.out]; simp [hx])
          have hx' : ((partOf h k).2 == 0) = false := beq_eq_false_iff_ne.2 hx
          go_wp2
          go_roundw
          case rel => exact ⟨k + 1, false, by omega, by go_num, rfl, HQ, hb'⟩
          case measure => simp [intOf]; omega
      · have HQ := Lib.hid (show true = (h.ps.take (k + 1)).any fun x => decide (x.2 = 0) by rw [HT1.out, List.any_append, ← hbz.out]; rfl)
        clear d2
        go_wp2
        go_roundw
        case rel => exact ⟨k + 1, true, by omega, by go_num, rfl, HQ, hb'⟩
        case measure => simp [intOf]; omega
    · obtain rfl : k = h.ps.length := by omega
      have hbe : bz = bareB h := by rw [hbz.out, List.take_length]; rfl
      have hbz2 := Lib.hid hbe
      clear hbz hbe
      cases bz
      · have hne : (a1 == T) = false := beq_eq_false_iff_ne.2 (hT.out hbz2.out.symm)
        go_wp2_with (first
          | (go_at_call 47; (with_reducible refine (HA.out wr M8.out.H).mono ?_); rintro e w9 ⟨rfl, hb9⟩; have M9 := Lib.hid (M8.out.next hb9); have B9 := Lib.hid (hb0to hb.out hb9); have m9 := M9.out.c; clear hb9)
          | (go_at_call 47; (with_reducible refine (HA.out w9 M9.out.H).mono ?_); rintro e w10 ⟨rfl, hb10⟩; have B10 := Lib.hid (hb0to B9.out hb10); clear hb10)
          | (go_at_call 16; refine (works_any _).mono ?_; rintro e w12 ⟨rfl, hb12⟩; have B12 := Lib.hid (show Below W0.heap.size W0 w12 from (by first | exact hb0to B10.out hb12 | exact hb0to B9.out hb12 | exact hb0to hb.out hb12)); clear hb12))
        go_ret
        exact ⟨rfl, hb0to HBW.out B12.out⟩
      · go_wp2_with (first
          | (go_at_call 47; (with_reducible refine (HA.out wr M8.out.H).mono ?_); rintro e w9 ⟨rfl, hb9⟩; have M9 := Lib.hid (M8.out.next hb9); have B9 := Lib.hid (hb0to hb.out hb9); have m9 := M9.out.c; clear hb9)
          | (go_at_call 47; (with_reducible refine (HA.out w9 M9.out.H).mono ?_); rintro e w10 ⟨rfl, hb10⟩; have B10 := Lib.hid (hb0to B9.out hb10); clear hb10)
          | (go_at_call 16; refine (works_any _).mono ?_; rintro e w12 ⟨rfl, hb12⟩; have B12 := Lib.hid (show Below W0.heap.size W0 w12 from (by first | exact hb0to B10.out hb12 | exact hb0to B9.out hb12 | exact hb0to hb.out hb12)); clear hb12))
        go_ret
        exact ⟨rfl, hb0to HBW.out B12.out⟩
set_option maxRecDepth 100000 in
set_option maxHeartbeats 2000000 in
theorem stocks_1C (L : HL) (h : House) (hv : HOK h) (one other : Int) (h1 : Hid (inR one 0 999 = true)) (h2 : Hid (inR other 0 999 = true)) (hle : one < other) (a1 b1 T m n : Int) (q0 : 0 ≤ a1) (q1 : a1 ≤ b1) (q2 : b1 ≤ T) (hT : Hid (bareB h = false → a1 ≠ T))
    (HR : Hid (∀ W, HouseAt W W.heap.size L h → Calls Try.prog 23 #[L.enc h] W fun e w' => e = .returned (.bool true) ∧ Below W.heap.size W w'))
    (HS1 : Hid (∀ W, HouseAt W W.heap.size L h → Calls Try.prog 18 #[L.enc h, .int .i64 one] W fun e w' => e = .returned (.tuple #[.int .i64 a1, .int .i64 0]) ∧ Below W.heap.size W w'))
    (HS2 : Hid (∀ W, HouseAt W W.heap.size L h → Calls Try.prog 18 #[L.enc h, .int .i64 other] W fun e w' => e = .returned (.tuple #[.int .i64 b1, .int .i64 0]) ∧ Below W.heap.size W w'))
    (HB44 : Hid (∀ W, HouseAt W W.heap.size L h → Calls Try.prog 44 #[L.enc h] W fun e w' => e = .returned (.tuple #[.int .i64 m, .int .i64 n, .bool false, .bool false]) ∧ Below W.heap.size W w'))
    (HA : Hid (∀ W, HouseAt W W.heap.size L h → Calls Try.prog 47 #[L.enc h] W fun e w' => e = .returned (.int .i64 T) ∧ Below W.heap.size W w')) (w : World) (hH : HouseAt w w.heap.size L h) :
    Calls Try.prog 9 #[L.enc h, .int .i64 one, .int .i64 other] w fun e w' => e = .returned (.bool true) ∧ Below w.heap.size w w' := by
  obtain ⟨W0, hW0, hM, hbw⟩ := LawN.new hH
  have hle' : one ≤ other := by omega
  have HBW := Lib.hid hbw
  have HW0 := Lib.hid hW0
  have HM := Lib.hid hM
  have HV := Lib.hid hv
  have hpl6 := hv.pl
  have hc0 := hM.c
  clear hW0 hM hbw hH hv
  obtain ⟨Ak, ck, Ap, cp, Ab, cb⟩ := L
  go_enter Try.func9, Try.ntmps9
  go_upto_region 1 with (fail)
  have e := HW0.out
  rw [e]
  clear e
  go_wp2_with (first
    | (go_at_call 23; refine (HR.out W0 HM.out.H).mono ?_; rintro e w1 ⟨rfl, hb1⟩; have M1 := Lib.hid (HM.out.next hb1); have B1 := Lib.hid hb1; have m1 := M1.out.c; clear hb1)
    | (go_at_call 46; (with_reducible refine (rIsStock_any one _).mono ?_); rintro e w' ⟨rfl, rfl⟩; rw [h1.out])
    | (go_at_call 46; (with_reducible refine (rIsStock_any other _).mono ?_); rintro e w' ⟨rfl, rfl⟩; rw [h2.out])
    | (go_at_call 18; (with_reducible refine (HS2.out w2 M2.out.H).mono ?_); rintro e w3 ⟨rfl, hb3⟩; have M3 := Lib.hid (M2.out.next hb3); have B3 := Lib.hid (hb0to B2.out hb3); have m3 := M3.out.c; clear hb3)
    | (go_at_call 18; (with_reducible refine (HS1.out w1 M1.out.H).mono ?_); rintro e w2 ⟨rfl, hb2⟩; have M2 := Lib.hid (M1.out.next hb2); have B2 := Lib.hid (hb0to B1.out hb2); have m2 := M2.out.c; clear hb2)
    | (go_at_call 44; (with_reducible refine (HB44.out w3 M3.out.H).mono ?_); rintro e w4 ⟨rfl, hb4⟩; have M4 := Lib.hid (M3.out.next hb4); have B4 := Lib.hid (hb0to B3.out hb4); have m4 := M4.out.c; clear hb4)
    | (go_at_call 47; (with_reducible refine (HA.out w4 M4.out.H).mono ?_); rintro e w5 ⟨rfl, hb5⟩; have M5 := Lib.hid (M4.out.next hb5); have B5 := Lib.hid (hb0to B4.out hb5); clear hb5))
  clear hc0 m1 m2 m3 m4
  go_loopw [15, 16] (fun s15 i wr => ∃ (k : Nat) (bz : Bool), k ≤ h.ps.length ∧ i = .int .i64 k ∧ s15 = .bool bz ∧ Hid (bz = (h.ps.take k).any fun x => decide (x.2 = 0)) ∧ Below w5.heap.size w5 wr) (fun _ i _ => h.ps.length - (intOf i).toNat)
  case atStart => exact ⟨0, false, Nat.zero_le _, rfl, rfl, Lib.hid (by simp), Below.refl _ _⟩
  case round =>
    obtain ⟨k, bz, hk, rfl, rfl, hbz, hb'⟩ := hrel
    have M8 := Lib.hid (M5.out.next hb')
    have hb := Lib.hid (hb0to B5.out hb')
    obtain ⟨g0, g1, g2, g3⟩ := M8.out.c
    by_cases hlt : k < h.ps.length
    · obtain ⟨kk, p1, p2, p3, ⟨p4, p5⟩, _⟩ := HV.out.part hlt
      obtain ⟨bp, op, e2, _, d1, d2⟩ := M8.out.H.p.at_ p1
      have HT1 := Lib.hid (take_next p1)
      clear p1 p2 p3 d1
      cases bz
      · rw [e2] at g2
        by_cases hx : (partOf h k).2 = 0
        · have HQ := Lib.hid (show true = (h.ps.take (k + 1)).any fun x => decide (x.2 = 0) by rw [HT1.out, List.any_append, ← hbz.out]; simp [hx])
          rw [hx] at d2
          clear hx p4 p5
          go_wp2
          go_roundw
          case rel => exact ⟨k + 1, true, by omega, by go_num, rfl, HQ, hb'⟩
          case measure => simp [intOf]; omega
        · have HQ := Lib.hid (show false = (h.ps.take (k + 1)).any fun x => decide (x.2 = 0) by rw [HT1.out, List.any_append, ← hbz.out]; simp [hx])
          have hx' : ((partOf h k).2 == 0) = false := beq_eq_false_iff_ne.2 hx
          go_wp2
          go_roundw
          case rel => exact ⟨k + 1, false, by omega, by go_num, rfl, HQ, hb'⟩
          case measure => simp [intOf]; omega
      · have HQ := Lib.hid (show true = (h.ps.take (k + 1)).any fun x => decide (x.2 = 0) by rw [HT1.out, List.any_append, ← hbz.out]; rfl)
        clear d2
        go_wp2
        go_roundw
        case rel => exact ⟨k + 1, true, by omega, by go_num, rfl, HQ, hb'⟩
        case measure => simp [intOf]; omega
    · obtain rfl : k = h.ps.length := by omega
      have hbe : bz = bareB h := by rw [hbz.out, List.take_length]; rfl
      have hbz2 := Lib.hid hbe
      clear hbz hbe
      cases bz
      · have hne : (a1 == T) = false := beq_eq_false_iff_ne.2 (hT.out hbz2.out.symm)
        go_wp2_with (first
          | (go_at_call 47; (with_reducible refine (HA.out wr M8.out.H).mono ?_); rintro e w9 ⟨rfl, hb9⟩; have M9 := Lib.hid (M8.out.next hb9); have B9 := Lib.hid (hb0to hb.out hb9); have m9 := M9.out.c; clear hb9)
          | (go_at_call 47; (with_reducible refine (HA.out w9 M9.out.H).mono ?_); rintro e w10 ⟨rfl, hb10⟩; have B10 := Lib.hid (hb0to B9.out hb10); clear hb10)
          | (go_at_call 16; refine (works_any _).mono ?_; rintro e w12 ⟨rfl, hb12⟩; have B12 := Lib.hid (show Below W0.heap.size W0 w12 from (by first | exact hb0to B10.out hb12 | exact hb0to B9.out hb12 | exact hb0to hb.out hb12)); clear hb12))
        go_ret
        exact ⟨rfl, hb0to HBW.out B12.out⟩
      · go_wp2_with (first
          | (go_at_call 47; (with_reducible refine (HA.out wr M8.out.H).mono ?_); rintro e w9 ⟨rfl, hb9⟩; have M9 := Lib.hid (M8.out.next hb9); have B9 := Lib.hid (hb0to hb.out hb9); have m9 := M9.out.c; clear hb9)
          | (go_at_call 47; (with_reducible refine (HA.out w9 M9.out.H).mono ?_); rintro e w10 ⟨rfl, hb10⟩; have B10 := Lib.hid (hb0to B9.out hb10); clear hb10)
          | (go_at_call 16; refine (works_any _).mono ?_; rintro e w12 ⟨rfl, hb12⟩; have B12 := Lib.hid (show Below W0.heap.size W0 w12 from (by first | exact hb0to B10.out hb12 | exact hb0to B9.out hb12 | exact hb0to hb.out hb12)); clear hb12))
        go_ret
        exact ⟨rfl, hb0to HBW.out B12.out⟩
set_option maxRecDepth 100000 in
set_option maxHeartbeats 2000000 in
theorem stocks_2A (L : HL) (h : House) (hv : HOK h) (one other : Int) (h1 : Hid (inR one 0 999 = true)) (h2 : Hid (inR other 0 999 = true)) (hle : other < one) (a1 b1 m n : Int) (q0 : 0 ≤ a1) (q1 : a1 ≤ b1) (q2 : b1 ≤ a1) (hm : m ≤ other)
    (HR : Hid (∀ W, HouseAt W W.heap.size L h → Calls Try.prog 23 #[L.enc h] W fun e w' => e = .returned (.bool true) ∧ Below W.heap.size W w'))
    (HS1 : Hid (∀ W, HouseAt W W.heap.size L h → Calls Try.prog 18 #[L.enc h, .int .i64 other] W fun e w' => e = .returned (.tuple #[.int .i64 a1, .int .i64 0]) ∧ Below W.heap.size W w'))
    (HS2 : Hid (∀ W, HouseAt W W.heap.size L h → Calls Try.prog 18 #[L.enc h, .int .i64 one] W fun e w' => e = .returned (.tuple #[.int .i64 b1, .int .i64 0]) ∧ Below W.heap.size W w'))
    (HB44 : Hid (∀ W, HouseAt W W.heap.size L h → Calls Try.prog 44 #[L.enc h] W fun e w' => e = .returned (.tuple #[.int .i64 m, .int .i64 n, .bool true, .bool false]) ∧ Below W.heap.size W w'))
    (HA : Hid (∀ W, HouseAt W W.heap.size L h → Calls Try.prog 47 #[L.enc h] W fun e w' => e = .returned (.int .i64 a1) ∧ Below W.heap.size W w')) (w : World) (hH : HouseAt w w.heap.size L h) :
    Calls Try.prog 9 #[L.enc h, .int .i64 one, .int .i64 other] w fun e w' => e = .returned (.bool true) ∧ Below w.heap.size w w' := by
  obtain ⟨W0, hW0, hM, hbw⟩ := LawN.new hH
  have hle' : other ≤ one := by omega
  have HBW := Lib.hid hbw
  have HW0 := Lib.hid hW0
  have HM := Lib.hid hM
  have HV := Lib.hid hv
  have hpl6 := hv.pl
  have hc0 := hM.c
  clear hW0 hM hbw hH hv
  obtain ⟨Ak, ck, Ap, cp, Ab, cb⟩ := L
  go_enter Try.func9, Try.ntmps9
  go_upto_region 1 with (fail)
  have e := HW0.out
  rw [e]
  clear e
  go_wp2_with (first
    | (go_at_call 23; refine (HR.out W0 HM.out.H).mono ?_; rintro e w1 ⟨rfl, hb1⟩; have M1 := Lib.hid (HM.out.next hb1); have B1 := Lib.hid hb1; have m1 := M1.out.c; clear hb1)
    | (go_at_call 46; (with_reducible refine (rIsStock_any one _).mono ?_); rintro e w' ⟨rfl, rfl⟩; rw [h1.out])
    | (go_at_call 46; (with_reducible refine (rIsStock_any other _).mono ?_); rintro e w' ⟨rfl, rfl⟩; rw [h2.out])
    | (go_at_call 18; (with_reducible refine (HS2.out w2 M2.out.H).mono ?_); rintro e w3 ⟨rfl, hb3⟩; have M3 := Lib.hid (M2.out.next hb3); have B3 := Lib.hid (hb0to B2.out hb3); have m3 := M3.out.c; clear hb3)
    | (go_at_call 18; (with_reducible refine (HS1.out w1 M1.out.H).mono ?_); rintro e w2 ⟨rfl, hb2⟩; have M2 := Lib.hid (M1.out.next hb2); have B2 := Lib.hid (hb0to B1.out hb2); have m2 := M2.out.c; clear hb2)
    | (go_at_call 44; (with_reducible refine (HB44.out w3 M3.out.H).mono ?_); rintro e w4 ⟨rfl, hb4⟩; have M4 := Lib.hid (M3.out.next hb4); have B4 := Lib.hid (hb0to B3.out hb4); have m4 := M4.out.c; clear hb4)
    | (go_at_call 47; (with_reducible refine (HA.out w4 M4.out.H).mono ?_); rintro e w5 ⟨rfl, hb5⟩; have M5 := Lib.hid (M4.out.next hb5); have B5 := Lib.hid (hb0to B4.out hb5); clear hb5))
  clear hc0 m1 m2 m3 m4
  go_loopw [15, 16] (fun s15 i wr => ∃ (k : Nat) (bz : Bool), k ≤ h.ps.length ∧ i = .int .i64 k ∧ s15 = .bool bz ∧ Hid (bz = (h.ps.take k).any fun x => decide (x.2 = 0)) ∧ Below w5.heap.size w5 wr) (fun _ i _ => h.ps.length - (intOf i).toNat)
  case atStart => exact ⟨0, false, Nat.zero_le _, rfl, rfl, Lib.hid (by simp), Below.refl _ _⟩
  case round =>
    obtain ⟨k, bz, hk, rfl, rfl, hbz, hb'⟩ := hrel
    have M8 := Lib.hid (M5.out.next hb')
    have hb := Lib.hid (hb0to B5.out hb')
    obtain ⟨g0, g1, g2, g3⟩ := M8.out.c
    by_cases hlt : k < h.ps.length
    · obtain ⟨kk, p1, p2, p3, ⟨p4, p5⟩, _⟩ := HV.out.part hlt
      obtain ⟨bp, op, e2, _, d1, d2⟩ := M8.out.H.p.at_ p1
      have HT1 := Lib.hid (take_next p1)
      clear p1 p2 p3 d1
      cases bz
      · rw [e2] at g2
        by_cases hx : (partOf h k).2 = 0
        · have HQ := Lib.hid (show true = (h.ps.take (k + 1)).any fun x => decide (x.2 = 0) by rw [HT1.out, List.any_append, ← hbz.out]; simp [hx])
          rw [hx] at d2
          clear hx p4 p5
          go_wp2
          go_roundw
          case rel => exact ⟨k + 1, true, by omega, by go_num, rfl, HQ, hb'⟩
          case measure => simp [intOf]; omega
        · have HQ := Lib.hid (show false = (h.ps.take (k + 1)).any fun x => decide (x.2 = 0) by rw [HT1.out, List.any_append, ← hbz.out]; simp [hx])
          have hx' : ((partOf h k).2 == 0) = false := beq_eq_false_iff_ne.2 hx
          go_wp2
          go_roundw
          case rel => exact ⟨k + 1, false, by omega, by go_num, rfl, HQ, hb'⟩
          case measure => simp [intOf]; omega
      · have HQ := Lib.hid (show true = (h.ps.take (k + 1)).any fun x => decide (x.2 = 0) by rw [HT1.out, List.any_append, ← hbz.out]; rfl)
        clear d2
        go_wp2
        go_roundw
        case rel => exact ⟨k + 1, true, by omega, by go_num, rfl, HQ, hb'⟩
        case measure => simp [intOf]; omega
    · obtain rfl : k = h.ps.length := by omega
      have hbe : bz = bareB h := by rw [hbz.out, List.take_length]; rfl
      have hbz2 := Lib.hid hbe
      clear hbz hbe
      cases bz
      · go_wp2_with (first
          | (go_at_call 47; (with_reducible refine (HA.out wr M8.out.H).mono ?_); rintro e w9 ⟨rfl, hb9⟩; have M9 := Lib.hid (M8.out.next hb9); have B9 := Lib.hid (hb0to hb.out hb9); have m9 := M9.out.c; clear hb9)
          | (go_at_call 47; (with_reducible refine (HA.out w9 M9.out.H).mono ?_); rintro e w10 ⟨rfl, hb10⟩; have B10 := Lib.hid (hb0to B9.out hb10); clear hb10)
          | (go_at_call 16; refine (works_any _).mono ?_; rintro e w12 ⟨rfl, hb12⟩; have B12 := Lib.hid (show Below W0.heap.size W0 w12 from (by first | exact hb0to B10.out hb12 | exact hb0to B9.out hb12 | exact hb0to hb.out hb12)); clear hb12))
        go_ret
        exact ⟨rfl, hb0to HBW.out B12.out⟩
      · go_wp2_with (first
          | (go_at_call 47; (with_reducible refine (HA.out wr M8.out.H).mono ?_); rintro e w9 ⟨rfl, hb9⟩; have M9 := Lib.hid (M8.out.next hb9); have B9 := Lib.hid (hb0to hb.out hb9); have m9 := M9.out.c; clear hb9)
          | (go_at_call 47; (with_reducible refine (HA.out w9 M9.out.H).mono ?_); rintro e w10 ⟨rfl, hb10⟩; have B10 := Lib.hid (hb0to B9.out hb10); clear hb10)
          | (go_at_call 16; refine (works_any _).mono ?_; rintro e w12 ⟨rfl, hb12⟩; have B12 := Lib.hid (show Below W0.heap.size W0 w12 from (by first | exact hb0to B10.out hb12 | exact hb0to B9.out hb12 | exact hb0to hb.out hb12)); clear hb12))
        go_ret
        exact ⟨rfl, hb0to HBW.out B12.out⟩
set_option maxRecDepth 100000 in
set_option maxHeartbeats 2000000 in
theorem stocks_2B (L : HL) (h : House) (hv : HOK h) (one other : Int) (h1 : Hid (inR one 0 999 = true)) (h2 : Hid (inR other 0 999 = true)) (hle : other < one) (a1 b1 T m n : Int) (q0 : 0 ≤ a1) (q1 : a1 ≤ b1) (q2 : b1 ≤ T) (hm : other < m) (hT : Hid (bareB h = false → a1 ≠ T))
    (HR : Hid (∀ W, HouseAt W W.heap.size L h → Calls Try.prog 23 #[L.enc h] W fun e w' => e = .returned (.bool true) ∧ Below W.heap.size W w'))
    (HS1 : Hid (∀ W, HouseAt W W.heap.size L h → Calls Try.prog 18 #[L.enc h, .int .i64 other] W fun e w' => e = .returned (.tuple #[.int .i64 a1, .int .i64 0]) ∧ Below W.heap.size W w'))
    (HS2 : Hid (∀ W, HouseAt W W.heap.size L h → Calls Try.prog 18 #[L.enc h, .int .i64 one] W fun e w' => e = .returned (.tuple #[.int .i64 b1, .int .i64 0]) ∧ Below W.heap.size W w'))
    (HB44 : Hid (∀ W, HouseAt W W.heap.size L h → Calls Try.prog 44 #[L.enc h] W fun e w' => e = .returned (.tuple #[.int .i64 m, .int .i64 n, .bool true, .bool false]) ∧ Below W.heap.size W w'))
    (HA : Hid (∀ W, HouseAt W W.heap.size L h → Calls Try.prog 47 #[L.enc h] W fun e w' => e = .returned (.int .i64 T) ∧ Below W.heap.size W w')) (w : World) (hH : HouseAt w w.heap.size L h) :
    Calls Try.prog 9 #[L.enc h, .int .i64 one, .int .i64 other] w fun e w' => e = .returned (.bool true) ∧ Below w.heap.size w w' := by
  obtain ⟨W0, hW0, hM, hbw⟩ := LawN.new hH
  have hle' : other ≤ one := by omega
  have HBW := Lib.hid hbw
  have HW0 := Lib.hid hW0
  have HM := Lib.hid hM
  have HV := Lib.hid hv
  have hpl6 := hv.pl
  have hc0 := hM.c
  clear hW0 hM hbw hH hv
  obtain ⟨Ak, ck, Ap, cp, Ab, cb⟩ := L
  go_enter Try.func9, Try.ntmps9
  go_upto_region 1 with (fail)
  have e := HW0.out
  rw [e]
  clear e
  go_wp2_with (first
    | (go_at_call 23; refine (HR.out W0 HM.out.H).mono ?_; rintro e w1 ⟨rfl, hb1⟩; have M1 := Lib.hid (HM.out.next hb1); have B1 := Lib.hid hb1; have m1 := M1.out.c; clear hb1)
    | (go_at_call 46; (with_reducible refine (rIsStock_any one _).mono ?_); rintro e w' ⟨rfl, rfl⟩; rw [h1.out])
    | (go_at_call 46; (with_reducible refine (rIsStock_any other _).mono ?_); rintro e w' ⟨rfl, rfl⟩; rw [h2.out])
    | (go_at_call 18; (with_reducible refine (HS2.out w2 M2.out.H).mono ?_); rintro e w3 ⟨rfl, hb3⟩; have M3 := Lib.hid (M2.out.next hb3); have B3 := Lib.hid (hb0to B2.out hb3); have m3 := M3.out.c; clear hb3)
    | (go_at_call 18; (with_reducible refine (HS1.out w1 M1.out.H).mono ?_); rintro e w2 ⟨rfl, hb2⟩; have M2 := Lib.hid (M1.out.next hb2); have B2 := Lib.hid (hb0to B1.out hb2); have m2 := M2.out.c; clear hb2)
    | (go_at_call 44; (with_reducible refine (HB44.out w3 M3.out.H).mono ?_); rintro e w4 ⟨rfl, hb4⟩; have M4 := Lib.hid (M3.out.next hb4); have B4 := Lib.hid (hb0to B3.out hb4); have m4 := M4.out.c; clear hb4)
    | (go_at_call 47; (with_reducible refine (HA.out w4 M4.out.H).mono ?_); rintro e w5 ⟨rfl, hb5⟩; have M5 := Lib.hid (M4.out.next hb5); have B5 := Lib.hid (hb0to B4.out hb5); clear hb5))
  clear hc0 m1 m2 m3 m4
  go_loopw [15, 16] (fun s15 i wr => ∃ (k : Nat) (bz : Bool), k ≤ h.ps.length ∧ i = .int .i64 k ∧ s15 = .bool bz ∧ Hid (bz = (h.ps.take k).any fun x => decide (x.2 = 0)) ∧ Below w5.heap.size w5 wr) (fun _ i _ => h.ps.length - (intOf i).toNat)
  case atStart => exact ⟨0, false, Nat.zero_le _, rfl, rfl, Lib.hid (by simp), Below.refl _ _⟩
  case round =>
    obtain ⟨k, bz, hk, rfl, rfl, hbz, hb'⟩ := hrel
    have M8 := Lib.hid (M5.out.next hb')
    have hb := Lib.hid (hb0to B5.out hb')
    obtain ⟨g0, g1, g2, g3⟩ := M8.out.c
    by_cases hlt : k < h.ps.length
    · obtain ⟨kk, p1, p2, p3, ⟨p4, p5⟩, _⟩ := HV.out.part hlt
      obtain ⟨bp, op, e2, _, d1, d2⟩ := M8.out.H.p.at_ p1
      have HT1 := Lib.hid (take_next p1)
      clear p1 p2 p3 d1
      cases bz
      · rw [e2] at g2
        by_cases hx : (partOf h k).2 = 0
        · have HQ := Lib.hid (show true = (h.ps.take (k + 1)).any fun x => decide (x.2 = 0) by rw [HT1.out, List.any_append, ← hbz.out]; simp [hx])
          rw [hx] at d2
          clear hx p4 p5
          go_wp2
          go_roundw
          case rel => exact ⟨k + 1, true, by omega, by go_num, rfl, HQ, hb'⟩
          case measure => simp [intOf]; omega
        · have HQ := Lib.hid (show false = (h.ps.take (k + 1)).any fun x => decide (x.2 = 0) by rw [HT1.out, List.any_append, ← hbz.out]; simp [hx])
          have hx' : ((partOf h k).2 == 0) = false := beq_eq_false_iff_ne.2 hx
          go_wp2
          go_roundw
          case rel => exact ⟨k + 1, false, by omega, by go_num, rfl, HQ, hb'⟩
          case measure => simp [intOf]; omega
      · have HQ := Lib.hid (show true = (h.ps.take (k + 1)).any fun x => decide (x.2 = 0) by rw [HT1.out, List.any_append, ← hbz.out]; rfl)
        clear d2
        go_wp2
        go_roundw
        case rel => exact ⟨k + 1, true, by omega, by go_num, rfl, HQ, hb'⟩
        case measure => simp [intOf]; omega
    · obtain rfl : k = h.ps.length := by omega
      have hbe : bz = bareB h := by rw [hbz.out, List.take_length]; rfl
      have hbz2 := Lib.hid hbe
      clear hbz hbe
      cases bz
      · have hne : (a1 == T) = false := beq_eq_false_iff_ne.2 (hT.out hbz2.out.symm)
        go_wp2_with (first
          | (go_at_call 47; (with_reducible refine (HA.out wr M8.out.H).mono ?_); rintro e w9 ⟨rfl, hb9⟩; have M9 := Lib.hid (M8.out.next hb9); have B9 := Lib.hid (hb0to hb.out hb9); have m9 := M9.out.c; clear hb9)
          | (go_at_call 47; (with_reducible refine (HA.out w9 M9.out.H).mono ?_); rintro e w10 ⟨rfl, hb10⟩; have B10 := Lib.hid (hb0to B9.out hb10); clear hb10)
          | (go_at_call 16; refine (works_any _).mono ?_; rintro e w12 ⟨rfl, hb12⟩; have B12 := Lib.hid (show Below W0.heap.size W0 w12 from (by first | exact hb0to B10.out hb12 | exact hb0to B9.out hb12 | exact hb0to hb.out hb12)); clear hb12))
        go_ret
        exact ⟨rfl, hb0to HBW.out B12.out⟩
      · go_wp2_with (first
          | (go_at_call 47; (with_reducible refine (HA.out wr M8.out.H).mono ?_); rintro e w9 ⟨rfl, hb9⟩; have M9 := Lib.hid (M8.out.next hb9); have B9 := Lib.hid (hb0to hb.out hb9); have m9 := M9.out.c; clear hb9)
          | (go_at_call 47; (with_reducible refine (HA.out w9 M9.out.H).mono ?_); rintro e w10 ⟨rfl, hb10⟩; have B10 := Lib.hid (hb0to B9.out hb10); clear hb10)
          | (go_at_call 16; refine (works_any _).mono ?_; rintro e w12 ⟨rfl, hb12⟩; have B12 := Lib.hid (show Below W0.heap.size W0 w12 from (by first | exact hb0to B10.out hb12 | exact hb0to B9.out hb12 | exact hb0to hb.out hb12)); clear hb12))
        go_ret
        exact ⟨rfl, hb0to HBW.out B12.out⟩
set_option maxRecDepth 100000 in
set_option maxHeartbeats 2000000 in
theorem stocks_2C (L : HL) (h : House) (hv : HOK h) (one other : Int) (h1 : Hid (inR one 0 999 = true)) (h2 : Hid (inR other 0 999 = true)) (hle : other < one) (a1 b1 T m n : Int) (q0 : 0 ≤ a1) (q1 : a1 ≤ b1) (q2 : b1 ≤ T) (hT : Hid (bareB h = false → a1 ≠ T))
    (HR : Hid (∀ W, HouseAt W W.heap.size L h → Calls Try.prog 23 #[L.enc h] W fun e w' => e = .returned (.bool true) ∧ Below W.heap.size W w'))
    (HS1 : Hid (∀ W, HouseAt W W.heap.size L h → Calls Try.prog 18 #[L.enc h, .int .i64 other] W fun e w' => e = .returned (.tuple #[.int .i64 a1, .int .i64 0]) ∧ Below W.heap.size W w'))
    (HS2 : Hid (∀ W, HouseAt W W.heap.size L h → Calls Try.prog 18 #[L.enc h, .int .i64 one] W fun e w' => e = .returned (.tuple #[.int .i64 b1, .int .i64 0]) ∧ Below W.heap.size W w'))
    (HB44 : Hid (∀ W, HouseAt W W.heap.size L h → Calls Try.prog 44 #[L.enc h] W fun e w' => e = .returned (.tuple #[.int .i64 m, .int .i64 n, .bool false, .bool false]) ∧ Below W.heap.size W w'))
    (HA : Hid (∀ W, HouseAt W W.heap.size L h → Calls Try.prog 47 #[L.enc h] W fun e w' => e = .returned (.int .i64 T) ∧ Below W.heap.size W w')) (w : World) (hH : HouseAt w w.heap.size L h) :
    Calls Try.prog 9 #[L.enc h, .int .i64 one, .int .i64 other] w fun e w' => e = .returned (.bool true) ∧ Below w.heap.size w w' := by
  obtain ⟨W0, hW0, hM, hbw⟩ := LawN.new hH
  have hle' : other ≤ one := by omega
  have HBW := Lib.hid hbw
  have HW0 := Lib.hid hW0
  have HM := Lib.hid hM
  have HV := Lib.hid hv
  have hpl6 := hv.pl
  have hc0 := hM.c
  clear hW0 hM hbw hH hv
  obtain ⟨Ak, ck, Ap, cp, Ab, cb⟩ := L
  go_enter Try.func9, Try.ntmps9
  go_upto_region 1 with (fail)
  have e := HW0.out
  rw [e]
  clear e
  go_wp2_with (first
    | (go_at_call 23; refine (HR.out W0 HM.out.H).mono ?_; rintro e w1 ⟨rfl, hb1⟩; have M1 := Lib.hid (HM.out.next hb1); have B1 := Lib.hid hb1; have m1 := M1.out.c; clear hb1)
    | (go_at_call 46; (with_reducible refine (rIsStock_any one _).mono ?_); rintro e w' ⟨rfl, rfl⟩; rw [h1.out])
    | (go_at_call 46; (with_reducible refine (rIsStock_any other _).mono ?_); rintro e w' ⟨rfl, rfl⟩; rw [h2.out])
    | (go_at_call 18; (with_reducible refine (HS2.out w2 M2.out.H).mono ?_); rintro e w3 ⟨rfl, hb3⟩; have M3 := Lib.hid (M2.out.next hb3); have B3 := Lib.hid (hb0to B2.out hb3); have m3 := M3.out.c; clear hb3)
    | (go_at_call 18; (with_reducible refine (HS1.out w1 M1.out.H).mono ?_); rintro e w2 ⟨rfl, hb2⟩; have M2 := Lib.hid (M1.out.next hb2); have B2 := Lib.hid (hb0to B1.out hb2); have m2 := M2.out.c; clear hb2)
    | (go_at_call 44; (with_reducible refine (HB44.out w3 M3.out.H).mono ?_); rintro e w4 ⟨rfl, hb4⟩; have M4 := Lib.hid (M3.out.next hb4); have B4 := Lib.hid (hb0to B3.out hb4); have m4 := M4.out.c; clear hb4)
    | (go_at_call 47; (with_reducible refine (HA.out w4 M4.out.H).mono ?_); rintro e w5 ⟨rfl, hb5⟩; have M5 := Lib.hid (M4.out.next hb5); have B5 := Lib.hid (hb0to B4.out hb5); clear hb5))
  clear hc0 m1 m2 m3 m4
  go_loopw [15, 16] (fun s15 i wr => ∃ (k : Nat) (bz : Bool), k ≤ h.ps.length ∧ i = .int .i64 k ∧ s15 = .bool bz ∧ Hid (bz = (h.ps.take k).any fun x => decide (x.2 = 0)) ∧ Below w5.heap.size w5 wr) (fun _ i _ => h.ps.length - (intOf i).toNat)
  case atStart => exact ⟨0, false, Nat.zero_le _, rfl, rfl, Lib.hid (by simp), Below.refl _ _⟩
  case round =>
    obtain ⟨k, bz, hk, rfl, rfl, hbz, hb'⟩ := hrel
    have M8 := Lib.hid (M5.out.next hb')
    have hb := Lib.hid (hb0to B5.out hb')
    obtain ⟨g0, g1, g2, g3⟩ := M8.out.c
    by_cases hlt : k < h.ps.length
    · obtain ⟨kk, p1, p2, p3, ⟨p4, p5⟩, _⟩ := HV.out.part hlt
      obtain ⟨bp, op, e2, _, d1, d2⟩ := M8.out.H.p.at_ p1
      have HT1 := Lib.hid (take_next p1)
      clear p1 p2 p3 d1
      cases bz
      · rw [e2] at g2
        by_cases hx : (partOf h k).2 = 0
        · have HQ := Lib.hid (show true = (h.ps.take (k + 1)).any fun x => decide (x.2 = 0) by rw [HT1.out, List.any_append, ← hbz.out]; simp [hx])
          rw [hx] at d2
          clear hx p4 p5
          go_wp2
          go_roundw
          case rel => exact ⟨k + 1, true, by omega, by go_num, rfl, HQ, hb'⟩
          case measure => simp [intOf]; omega
        · have HQ := Lib.hid (show false = (h.ps.take (k + 1)).any fun x => decide (x.2 = 0) by rw [HT1.out, List.any_append, ← hbz.out]; simp [hx])
          have hx' : ((partOf h k).2 == 0) = false := beq_eq_false_iff_ne.2 hx
          go_wp2
          go_roundw
          case rel => exact ⟨k + 1, false, by omega, by go_num, rfl, HQ, hb'⟩
          case measure => simp [intOf]; omega
      · have HQ := Lib.hid (show true = (h.ps.take (k + 1)).any fun x => decide (x.2 = 0) by rw [HT1.out, List.any_append, ← hbz.out]; rfl)
        clear d2
        go_wp2
        go_roundw
        case rel => exact ⟨k + 1, true, by omega, by go_num, rfl, HQ, hb'⟩
        case measure => simp [intOf]; omega
    · obtain rfl : k = h.ps.length := by omega
      have hbe : bz = bareB h := by rw [hbz.out, List.take_length]; rfl
      have hbz2 := Lib.hid hbe
      clear hbz hbe
      cases bz
      · have hne : (a1 == T) = false := beq_eq_false_iff_ne.2 (hT.out hbz2.out.symm)
        go_wp2_with (first
          | (go_at_call 47; (with_reducible refine (HA.out wr M8.out.H).mono ?_); rintro e w9 ⟨rfl, hb9⟩; have M9 := Lib.hid (M8.out.next hb9); have B9 := Lib.hid (hb0to hb.out hb9); have m9 := M9.out.c; clear hb9)
          | (go_at_call 47; (with_reducible refine (HA.out w9 M9.out.H).mono ?_); rintro e w10 ⟨rfl, hb10⟩; have B10 := Lib.hid (hb0to B9.out hb10); clear hb10)
          | (go_at_call 16; refine (works_any _).mono ?_; rintro e w12 ⟨rfl, hb12⟩; have B12 := Lib.hid (show Below W0.heap.size W0 w12 from (by first | exact hb0to B10.out hb12 | exact hb0to B9.out hb12 | exact hb0to hb.out hb12)); clear hb12))
        go_ret
        exact ⟨rfl, hb0to HBW.out B12.out⟩
      · go_wp2_with (first
          | (go_at_call 47; (with_reducible refine (HA.out wr M8.out.H).mono ?_); rintro e w9 ⟨rfl, hb9⟩; have M9 := Lib.hid (M8.out.next hb9); have B9 := Lib.hid (hb0to hb.out hb9); have m9 := M9.out.c; clear hb9)
          | (go_at_call 47; (with_reducible refine (HA.out w9 M9.out.H).mono ?_); rintro e w10 ⟨rfl, hb10⟩; have B10 := Lib.hid (hb0to B9.out hb10); clear hb10)
          | (go_at_call 16; refine (works_any _).mono ?_; rintro e w12 ⟨rfl, hb12⟩; have B12 := Lib.hid (show Below W0.heap.size W0 w12 from (by first | exact hb0to B10.out hb12 | exact hb0to B9.out hb12 | exact hb0to hb.out hb12)); clear hb12))
        go_ret
        exact ⟨rfl, hb0to HBW.out B12.out⟩
set_option maxRecDepth 100000 in
set_option maxHeartbeats 2000000 in
theorem stocks_3A (L : HL) (h : House) (hv : HOK h) (one : Int) (h1 : Hid (inR one 0 999 = true)) (h2 : Hid (inR one 0 999 = true)) (hle : one ≤ one) (a1 b1 m n : Int) (q0 : 0 ≤ a1) (q1 : a1 ≤ b1) (q2 : b1 ≤ a1) (hm : m ≤ one)
    (HR : Hid (∀ W, HouseAt W W.heap.size L h → Calls Try.prog 23 #[L.enc h] W fun e w' => e = .returned (.bool true) ∧ Below W.heap.size W w'))
    (HS1 : Hid (∀ W, HouseAt W W.heap.size L h → Calls Try.prog 18 #[L.enc h, .int .i64 one] W fun e w' => e = .returned (.tuple #[.int .i64 a1, .int .i64 0]) ∧ Below W.heap.size W w'))
    (HS2 : Hid (∀ W, HouseAt W W.heap.size L h → Calls Try.prog 18 #[L.enc h, .int .i64 one] W fun e w' => e = .returned (.tuple #[.int .i64 b1, .int .i64 0]) ∧ Below W.heap.size W w'))
    (HB44 : Hid (∀ W, HouseAt W W.heap.size L h → Calls Try.prog 44 #[L.enc h] W fun e w' => e = .returned (.tuple #[.int .i64 m, .int .i64 n, .bool true, .bool false]) ∧ Below W.heap.size W w'))
    (HA : Hid (∀ W, HouseAt W W.heap.size L h → Calls Try.prog 47 #[L.enc h] W fun e w' => e = .returned (.int .i64 a1) ∧ Below W.heap.size W w')) (w : World) (hH : HouseAt w w.heap.size L h) :
    Calls Try.prog 9 #[L.enc h, .int .i64 one, .int .i64 one] w fun e w' => e = .returned (.bool true) ∧ Below w.heap.size w w' := by
  obtain ⟨W0, hW0, hM, hbw⟩ := LawN.new hH
  have hle' : one ≤ one := by omega
  have HBW := Lib.hid hbw
  have HW0 := Lib.hid hW0
  have HM := Lib.hid hM
  have HV := Lib.hid hv
  have hpl6 := hv.pl
  have hc0 := hM.c
  clear hW0 hM hbw hH hv
  obtain ⟨Ak, ck, Ap, cp, Ab, cb⟩ := L
  go_enter Try.func9, Try.ntmps9
  go_upto_region 1 with (fail)
  have e := HW0.out
  rw [e]
  clear e
  go_wp2_with (first
    | (go_at_call 23; refine (HR.out W0 HM.out.H).mono ?_; rintro e w1 ⟨rfl, hb1⟩; have M1 := Lib.hid (HM.out.next hb1); have B1 := Lib.hid hb1; have m1 := M1.out.c; clear hb1)
    | (go_at_call 46; (with_reducible refine (rIsStock_any one _).mono ?_); rintro e w' ⟨rfl, rfl⟩; rw [h1.out])
    | (go_at_call 46; (with_reducible refine (rIsStock_any one _).mono ?_); rintro e w' ⟨rfl, rfl⟩; rw [h2.out])
    | (go_at_call 18; (with_reducible refine (HS2.out w2 M2.out.H).mono ?_); rintro e w3 ⟨rfl, hb3⟩; have M3 := Lib.hid (M2.out.next hb3); have B3 := Lib.hid (hb0to B2.out hb3); have m3 := M3.out.c; clear hb3)
    | (go_at_call 18; (with_reducible refine (HS1.out w1 M1.out.H).mono ?_); rintro e w2 ⟨rfl, hb2⟩; have M2 := Lib.hid (M1.out.next hb2); have B2 := Lib.hid (hb0to B1.out hb2); have m2 := M2.out.c; clear hb2)
    | (go_at_call 44; (with_reducible refine (HB44.out w3 M3.out.H).mono ?_); rintro e w4 ⟨rfl, hb4⟩; have M4 := Lib.hid (M3.out.next hb4); have B4 := Lib.hid (hb0to B3.out hb4); have m4 := M4.out.c; clear hb4)
    | (go_at_call 47; (with_reducible refine (HA.out w4 M4.out.H).mono ?_); rintro e w5 ⟨rfl, hb5⟩; have M5 := Lib.hid (M4.out.next hb5); have B5 := Lib.hid (hb0to B4.out hb5); clear hb5))
  clear hc0 m1 m2 m3 m4
  go_loopw [15, 16] (fun s15 i wr => ∃ (k : Nat) (bz : Bool), k ≤ h.ps.length ∧ i = .int .i64 k ∧ s15 = .bool bz ∧ Hid (bz = (h.ps.take k).any fun x => decide (x.2 = 0)) ∧ Below w5.heap.size w5 wr) (fun _ i _ => h.ps.length - (intOf i).toNat)
  case atStart => exact ⟨0, false, Nat.zero_le _, rfl, rfl, Lib.hid (by simp), Below.refl _ _⟩
  case round =>
    obtain ⟨k, bz, hk, rfl, rfl, hbz, hb'⟩ := hrel
    have M8 := Lib.hid (M5.out.next hb')
    have hb := Lib.hid (hb0to B5.out hb')
    obtain ⟨g0, g1, g2, g3⟩ := M8.out.c
    by_cases hlt : k < h.ps.length
    · obtain ⟨kk, p1, p2, p3, ⟨p4, p5⟩, _⟩ := HV.out.part hlt
      obtain ⟨bp, op, e2, _, d1, d2⟩ := M8.out.H.p.at_ p1
      have HT1 := Lib.hid (take_next p1)
      clear p1 p2 p3 d1
      cases bz
      · rw [e2] at g2
        by_cases hx : (partOf h k).2 = 0
        · have HQ := Lib.hid (show true = (h.ps.take (k + 1)).any fun x => decide (x.2 = 0) by rw [HT1.out, List.any_append, ← hbz.out]; simp [hx])
          rw [hx] at d2
          clear hx p4 p5
          go_wp2
          go_roundw
          case rel => exact ⟨k + 1, true, by omega, by go_num, rfl, HQ, hb'⟩
          case measure => simp [intOf]; omega
        · have HQ := Lib.hid (show false = (h.ps.take (k + 1)).any fun x => decide (x.2 = 0) by rw [HT1.out, List.any_append, ← hbz.out]; simp [hx])
          have hx' : ((partOf h k).2 == 0) = false := beq_eq_false_iff_ne.2 hx
          go_wp2
          go_roundw
          case rel => exact ⟨k + 1, false, by omega, by go_num, rfl, HQ, hb'⟩
          case measure => simp [intOf]; omega
      · have HQ := Lib.hid (show true = (h.ps.take (k + 1)).any fun x => decide (x.2 = 0) by rw [HT1.out, List.any_append, ← hbz.out]; rfl)
        clear d2
        go_wp2
        go_roundw
        case rel => exact ⟨k + 1, true, by omega, by go_num, rfl, HQ, hb'⟩
        case measure => simp [intOf]; omega
    · obtain rfl : k = h.ps.length := by omega
      have hbe : bz = bareB h := by rw [hbz.out, List.take_length]; rfl
      have hbz2 := Lib.hid hbe
      clear hbz hbe
      cases bz
      · go_wp2_with (first
          | (go_at_call 47; (with_reducible refine (HA.out wr M8.out.H).mono ?_); rintro e w9 ⟨rfl, hb9⟩; have M9 := Lib.hid (M8.out.next hb9); have B9 := Lib.hid (hb0to hb.out hb9); have m9 := M9.out.c; clear hb9)
          | (go_at_call 47; (with_reducible refine (HA.out w9 M9.out.H).mono ?_); rintro e w10 ⟨rfl, hb10⟩; have B10 := Lib.hid (hb0to B9.out hb10); clear hb10)
          | (go_at_call 16; refine (works_any _).mono ?_; rintro e w12 ⟨rfl, hb12⟩; have B12 := Lib.hid (show Below W0.heap.size W0 w12 from (by first | exact hb0to B10.out hb12 | exact hb0to B9.out hb12 | exact hb0to hb.out hb12)); clear hb12))
        go_ret
        exact ⟨rfl, hb0to HBW.out B12.out⟩
      · go_wp2_with (first
          | (go_at_call 47; (with_reducible refine (HA.out wr M8.out.H).mono ?_); rintro e w9 ⟨rfl, hb9⟩; have M9 := Lib.hid (M8.out.next hb9); have B9 := Lib.hid (hb0to hb.out hb9); have m9 := M9.out.c; clear hb9)
          | (go_at_call 47; (with_reducible refine (HA.out w9 M9.out.H).mono ?_); rintro e w10 ⟨rfl, hb10⟩; have B10 := Lib.hid (hb0to B9.out hb10); clear hb10)
          | (go_at_call 16; refine (works_any _).mono ?_; rintro e w12 ⟨rfl, hb12⟩; have B12 := Lib.hid (show Below W0.heap.size W0 w12 from (by first | exact hb0to B10.out hb12 | exact hb0to B9.out hb12 | exact hb0to hb.out hb12)); clear hb12))
        go_ret
        exact ⟨rfl, hb0to HBW.out B12.out⟩
set_option maxRecDepth 100000 in
set_option maxHeartbeats 2000000 in
theorem stocks_3B (L : HL) (h : House) (hv : HOK h) (one : Int) (h1 : Hid (inR one 0 999 = true)) (h2 : Hid (inR one 0 999 = true)) (hle : one ≤ one) (a1 b1 T m n : Int) (q0 : 0 ≤ a1) (q1 : a1 ≤ b1) (q2 : b1 ≤ T) (hm : one < m) (hT : Hid (bareB h = false → a1 ≠ T))
    (HR : Hid (∀ W, HouseAt W W.heap.size L h → Calls Try.prog 23 #[L.enc h] W fun e w' => e = .returned (.bool true) ∧ Below W.heap.size W w'))
    (HS1 : Hid (∀ W, HouseAt W W.heap.size L h → Calls Try.prog 18 #[L.enc h, .int .i64 one] W fun e w' => e = .returned (.tuple #[.int .i64 a1, .int .i64 0]) ∧ Below W.heap.size W w'))
    (HS2 : Hid (∀ W, HouseAt W W.heap.size L h → Calls Try.prog 18 #[L.enc h, .int .i64 one] W fun e w' => e = .returned (.tuple #[.int .i64 b1, .int .i64 0]) ∧ Below W.heap.size W w'))
    (HB44 : Hid (∀ W, HouseAt W W.heap.size L h → Calls Try.prog 44 #[L.enc h] W fun e w' => e = .returned (.tuple #[.int .i64 m, .int .i64 n, .bool true, .bool false]) ∧ Below W.heap.size W w'))
    (HA : Hid (∀ W, HouseAt W W.heap.size L h → Calls Try.prog 47 #[L.enc h] W fun e w' => e = .returned (.int .i64 T) ∧ Below W.heap.size W w')) (w : World) (hH : HouseAt w w.heap.size L h) :
    Calls Try.prog 9 #[L.enc h, .int .i64 one, .int .i64 one] w fun e w' => e = .returned (.bool true) ∧ Below w.heap.size w w' := by
  obtain ⟨W0, hW0, hM, hbw⟩ := LawN.new hH
  have hle' : one ≤ one := by omega
  have HBW := Lib.hid hbw
  have HW0 := Lib.hid hW0
  have HM := Lib.hid hM
  have HV := Lib.hid hv
  have hpl6 := hv.pl
  have hc0 := hM.c
  clear hW0 hM hbw hH hv
  obtain ⟨Ak, ck, Ap, cp, Ab, cb⟩ := L
  go_enter Try.func9, Try.ntmps9
  go_upto_region 1 with (fail)
  have e := HW0.out
  rw [e]
  clear e
  go_wp2_with (first
    | (go_at_call 23; refine (HR.out W0 HM.out.H).mono ?_; rintro e w1 ⟨rfl, hb1⟩; have M1 := Lib.hid (HM.out.next hb1); have B1 := Lib.hid hb1; have m1 := M1.out.c; clear hb1)
    | (go_at_call 46; (with_reducible refine (rIsStock_any one _).mono ?_); rintro e w' ⟨rfl, rfl⟩; rw [h1.out])
    | (go_at_call 46; (with_reducible refine (rIsStock_any one _).mono ?_); rintro e w' ⟨rfl, rfl⟩; rw [h2.out])
    | (go_at_call 18; (with_reducible refine (HS2.out w2 M2.out.H).mono ?_); rintro e w3 ⟨rfl, hb3⟩; have M3 := Lib.hid (M2.out.next hb3); have B3 := Lib.hid (hb0to B2.out hb3); have m3 := M3.out.c; clear hb3)
    | (go_at_call 18; (with_reducible refine (HS1.out w1 M1.out.H).mono ?_); rintro e w2 ⟨rfl, hb2⟩; have M2 := Lib.hid (M1.out.next hb2); have B2 := Lib.hid (hb0to B1.out hb2); have m2 := M2.out.c; clear hb2)
    | (go_at_call 44; (with_reducible refine (HB44.out w3 M3.out.H).mono ?_); rintro e w4 ⟨rfl, hb4⟩; have M4 := Lib.hid (M3.out.next hb4); have B4 := Lib.hid (hb0to B3.out hb4); have m4 := M4.out.c; clear hb4)
    | (go_at_call 47; (with_reducible refine (HA.out w4 M4.out.H).mono ?_); rintro e w5 ⟨rfl, hb5⟩; have M5 := Lib.hid (M4.out.next hb5); have B5 := Lib.hid (hb0to B4.out hb5); clear hb5))
  clear hc0 m1 m2 m3 m4
  go_loopw [15, 16] (fun s15 i wr => ∃ (k : Nat) (bz : Bool), k ≤ h.ps.length ∧ i = .int .i64 k ∧ s15 = .bool bz ∧ Hid (bz = (h.ps.take k).any fun x => decide (x.2 = 0)) ∧ Below w5.heap.size w5 wr) (fun _ i _ => h.ps.length - (intOf i).toNat)
  case atStart => exact ⟨0, false, Nat.zero_le _, rfl, rfl, Lib.hid (by simp), Below.refl _ _⟩
  case round =>
    obtain ⟨k, bz, hk, rfl, rfl, hbz, hb'⟩ := hrel
    have M8 := Lib.hid (M5.out.next hb')
    have hb := Lib.hid (hb0to B5.out hb')
    obtain ⟨g0, g1, g2, g3⟩ := M8.out.c
    by_cases hlt : k < h.ps.length
    · obtain ⟨kk, p1, p2, p3, ⟨p4, p5⟩, _⟩ := HV.out.part hlt
      obtain ⟨bp, op, e2, _, d1, d2⟩ := M8.out.H.p.at_ p1
      have HT1 := Lib.hid (take_next p1)
      clear p1 p2 p3 d1
      cases bz
      · rw [e2] at g2
        by_cases hx : (partOf h k).2 = 0
        · have HQ := Lib.hid (show true = (h.ps.take (k + 1)).any fun x => decide (x.2 = 0) by rw [HT1.out, List.any_append, ← hbz.out]; simp [hx])
          rw [hx] at d2
          clear hx p4 p5
          go_wp2
          go_roundw
          case rel => exact ⟨k + 1, true, by omega, by go_num, rfl, HQ, hb'⟩
          case measure => simp [intOf]; omega
        · have HQ := Lib.hid (show false = (h.ps.take (k + 1)).any fun x => decide (x.2 = 0) by rw [HT1.out, List.any_append, ← hbz.out]; simp [hx])
          have hx' : ((partOf h k).2 == 0) = false := beq_eq_false_iff_ne.2 hx
          go_wp2
          go_roundw
          case rel => exact ⟨k + 1, false, by omega, by go_num, rfl, HQ, hb'⟩
          case measure => simp [intOf]; omega
      · have HQ := Lib.hid (show true = (h.ps.take (k + 1)).any fun x => decide (x.2 = 0) by rw [HT1.out, List.any_append, ← hbz.out]; rfl)
        clear d2
        go_wp2
        go_roundw
        case rel => exact ⟨k + 1, true, by omega, by go_num, rfl, HQ, hb'⟩
        case measure => simp [intOf]; omega
    · obtain rfl : k = h.ps.length := by omega
      have hbe : bz = bareB h := by rw [hbz.out, List.take_length]; rfl
      have hbz2 := Lib.hid hbe
      clear hbz hbe
      cases bz
      · have hne : (a1 == T) = false := beq_eq_false_iff_ne.2 (hT.out hbz2.out.symm)
        go_wp2_with (first
          | (go_at_call 47; (with_reducible refine (HA.out wr M8.out.H).mono ?_); rintro e w9 ⟨rfl, hb9⟩; have M9 := Lib.hid (M8.out.next hb9); have B9 := Lib.hid (hb0to hb.out hb9); have m9 := M9.out.c; clear hb9)
          | (go_at_call 47; (with_reducible refine (HA.out w9 M9.out.H).mono ?_); rintro e w10 ⟨rfl, hb10⟩; have B10 := Lib.hid (hb0to B9.out hb10); clear hb10)
          | (go_at_call 16; refine (works_any _).mono ?_; rintro e w12 ⟨rfl, hb12⟩; have B12 := Lib.hid (show Below W0.heap.size W0 w12 from (by first | exact hb0to B10.out hb12 | exact hb0to B9.out hb12 | exact hb0to hb.out hb12)); clear hb12))
        go_ret
        exact ⟨rfl, hb0to HBW.out B12.out⟩
      · go_wp2_with (first
          | (go_at_call 47; (with_reducible refine (HA.out wr M8.out.H).mono ?_); rintro e w9 ⟨rfl, hb9⟩; have M9 := Lib.hid (M8.out.next hb9); have B9 := Lib.hid (hb0to hb.out hb9); have m9 := M9.out.c; clear hb9)
          | (go_at_call 47; (with_reducible refine (HA.out w9 M9.out.H).mono ?_); rintro e w10 ⟨rfl, hb10⟩; have B10 := Lib.hid (hb0to B9.out hb10); clear hb10)
          | (go_at_call 16; refine (works_any _).mono ?_; rintro e w12 ⟨rfl, hb12⟩; have B12 := Lib.hid (show Below W0.heap.size W0 w12 from (by first | exact hb0to B10.out hb12 | exact hb0to B9.out hb12 | exact hb0to hb.out hb12)); clear hb12))
        go_ret
        exact ⟨rfl, hb0to HBW.out B12.out⟩
set_option maxRecDepth 100000 in
set_option maxHeartbeats 2000000 in
theorem stocks_3C (L : HL) (h : House) (hv : HOK h) (one : Int) (h1 : Hid (inR one 0 999 = true)) (h2 : Hid (inR one 0 999 = true)) (hle : one ≤ one) (a1 b1 T m n : Int) (q0 : 0 ≤ a1) (q1 : a1 ≤ b1) (q2 : b1 ≤ T) (hT : Hid (bareB h = false → a1 ≠ T))
    (HR : Hid (∀ W, HouseAt W W.heap.size L h → Calls Try.prog 23 #[L.enc h] W fun e w' => e = .returned (.bool true) ∧ Below W.heap.size W w'))
    (HS1 : Hid (∀ W, HouseAt W W.heap.size L h → Calls Try.prog 18 #[L.enc h, .int .i64 one] W fun e w' => e = .returned (.tuple #[.int .i64 a1, .int .i64 0]) ∧ Below W.heap.size W w'))
    (HS2 : Hid (∀ W, HouseAt W W.heap.size L h → Calls Try.prog 18 #[L.enc h, .int .i64 one] W fun e w' => e = .returned (.tuple #[.int .i64 b1, .int .i64 0]) ∧ Below W.heap.size W w'))
    (HB44 : Hid (∀ W, HouseAt W W.heap.size L h → Calls Try.prog 44 #[L.enc h] W fun e w' => e = .returned (.tuple #[.int .i64 m, .int .i64 n, .bool false, .bool false]) ∧ Below W.heap.size W w'))
    (HA : Hid (∀ W, HouseAt W W.heap.size L h → Calls Try.prog 47 #[L.enc h] W fun e w' => e = .returned (.int .i64 T) ∧ Below W.heap.size W w')) (w : World) (hH : HouseAt w w.heap.size L h) :
    Calls Try.prog 9 #[L.enc h, .int .i64 one, .int .i64 one] w fun e w' => e = .returned (.bool true) ∧ Below w.heap.size w w' := by
  obtain ⟨W0, hW0, hM, hbw⟩ := LawN.new hH
  have hle' : one ≤ one := by omega
  have HBW := Lib.hid hbw
  have HW0 := Lib.hid hW0
  have HM := Lib.hid hM
  have HV := Lib.hid hv
  have hpl6 := hv.pl
  have hc0 := hM.c
  clear hW0 hM hbw hH hv
  obtain ⟨Ak, ck, Ap, cp, Ab, cb⟩ := L
  go_enter Try.func9, Try.ntmps9
  go_upto_region 1 with (fail)
  have e := HW0.out
  rw [e]
  clear e
  go_wp2_with (first
    | (go_at_call 23; refine (HR.out W0 HM.out.H).mono ?_; rintro e w1 ⟨rfl, hb1⟩; have M1 := Lib.hid (HM.out.next hb1); have B1 := Lib.hid hb1; have m1 := M1.out.c; clear hb1)
    | (go_at_call 46; (with_reducible refine (rIsStock_any one _).mono ?_); rintro e w' ⟨rfl, rfl⟩; rw [h1.out])
    | (go_at_call 46; (with_reducible refine (rIsStock_any one _).mono ?_); rintro e w' ⟨rfl, rfl⟩; rw [h2.out])
    | (go_at_call 18; (with_reducible refine (HS2.out w2 M2.out.H).mono ?_); rintro e w3 ⟨rfl, hb3⟩; have M3 := Lib.hid (M2.out.next hb3); have B3 := Lib.hid (hb0to B2.out hb3); have m3 := M3.out.c; clear hb3)
    | (go_at_call 18; (with_reducible refine (HS1.out w1 M1.out.H).mono ?_); rintro e w2 ⟨rfl, hb2⟩; have M2 := Lib.hid (M1.out.next hb2); have B2 := Lib.hid (hb0to B1.out hb2); have m2 := M2.out.c; clear hb2)
    | (go_at_call 44; (with_reducible refine (HB44.out w3 M3.out.H).mono ?_); rintro e w4 ⟨rfl, hb4⟩; have M4 := Lib.hid (M3.out.next hb4); have B4 := Lib.hid (hb0to B3.out hb4); have m4 := M4.out.c; clear hb4)
    | (go_at_call 47; (with_reducible refine (HA.out w4 M4.out.H).mono ?_); rintro e w5 ⟨rfl, hb5⟩; have M5 := Lib.hid (M4.out.next hb5); have B5 := Lib.hid (hb0to B4.out hb5); clear hb5))
  clear hc0 m1 m2 m3 m4
  go_loopw [15, 16] (fun s15 i wr => ∃ (k : Nat) (bz : Bool), k ≤ h.ps.length ∧ i = .int .i64 k ∧ s15 = .bool bz ∧ Hid (bz = (h.ps.take k).any fun x => decide (x.2 = 0)) ∧ Below w5.heap.size w5 wr) (fun _ i _ => h.ps.length - (intOf i).toNat)
  case atStart => exact ⟨0, false, Nat.zero_le _, rfl, rfl, Lib.hid (by simp), Below.refl _ _⟩
  case round =>
    obtain ⟨k, bz, hk, rfl, rfl, hbz, hb'⟩ := hrel
    have M8 := Lib.hid (M5.out.next hb')
    have hb := Lib.hid (hb0to B5.out hb')
    obtain ⟨g0, g1, g2, g3⟩ := M8.out.c
    by_cases hlt : k < h.ps.length
    · obtain ⟨kk, p1, p2, p3, ⟨p4, p5⟩, _⟩ := HV.out.part hlt
      obtain ⟨bp, op, e2, _, d1, d2⟩ := M8.out.H.p.at_ p1
      have HT1 := Lib.hid (take_next p1)
      clear p1 p2 p3 d1
      cases bz
      · rw [e2] at g2
        by_cases hx : (partOf h k).2 = 0
        · have HQ := Lib.hid (show true = (h.ps.take (k + 1)).any fun x => decide (x.2 = 0) by rw [HT1.out, List.any_append, ← hbz.out]; simp [hx])
          rw [hx] at d2
          clear hx p4 p5
          go_wp2
          go_roundw
          case rel => exact ⟨k + 1, true, by omega, by go_num, rfl, HQ, hb'⟩
          case measure => simp [intOf]; omega
        · have HQ := Lib.hid (show false = (h.ps.take (k + 1)).any fun x => decide (x.2 = 0) by rw [HT1.out, List.any_append, ← hbz.out]; simp [hx])
          have hx' : ((partOf h k).2 == 0) = false := beq_eq_false_iff_ne.2 hx
          go_wp2
          go_roundw
          case rel => exact ⟨k + 1, false, by omega, by go_num, rfl, HQ, hb'⟩
          case measure => simp [intOf]; omega
      · have HQ := Lib.hid (show true = (h.ps.take (k + 1)).any fun x => decide (x.2 = 0) by rw [HT1.out, List.any_append, ← hbz.out]; rfl)
        clear d2
        go_wp2
        go_roundw
        case rel => exact ⟨k + 1, true, by omega, by go_num, rfl, HQ, hb'⟩
        case measure => simp [intOf]; omega
    · obtain rfl : k = h.ps.length := by omega
      have hbe : bz = bareB h := by rw [hbz.out, List.take_length]; rfl
      have hbz2 := Lib.hid hbe
      clear hbz hbe
      cases bz
      · have hne : (a1 == T) = false := beq_eq_false_iff_ne.2 (hT.out hbz2.out.symm)
        go_wp2_with (first
          | (go_at_call 47; (with_reducible refine (HA.out wr M8.out.H).mono ?_); rintro e w9 ⟨rfl, hb9⟩; have M9 := Lib.hid (M8.out.next hb9); have B9 := Lib.hid (hb0to hb.out hb9); have m9 := M9.out.c; clear hb9)
          | (go_at_call 47; (with_reducible refine (HA.out w9 M9.out.H).mono ?_); rintro e w10 ⟨rfl, hb10⟩; have B10 := Lib.hid (hb0to B9.out hb10); clear hb10)
          | (go_at_call 16; refine (works_any _).mono ?_; rintro e w12 ⟨rfl, hb12⟩; have B12 := Lib.hid (show Below W0.heap.size W0 w12 from (by first | exact hb0to B10.out hb12 | exact hb0to B9.out hb12 | exact hb0to hb.out hb12)); clear hb12))
        go_ret
        exact ⟨rfl, hb0to HBW.out B12.out⟩
      · go_wp2_with (first
          | (go_at_call 47; (with_reducible refine (HA.out wr M8.out.H).mono ?_); rintro e w9 ⟨rfl, hb9⟩; have M9 := Lib.hid (M8.out.next hb9); have B9 := Lib.hid (hb0to hb.out hb9); have m9 := M9.out.c; clear hb9)
          | (go_at_call 47; (with_reducible refine (HA.out w9 M9.out.H).mono ?_); rintro e w10 ⟨rfl, hb10⟩; have B10 := Lib.hid (hb0to B9.out hb10); clear hb10)
          | (go_at_call 16; refine (works_any _).mono ?_; rintro e w12 ⟨rfl, hb12⟩; have B12 := Lib.hid (show Below W0.heap.size W0 w12 from (by first | exact hb0to B10.out hb12 | exact hb0to B9.out hb12 | exact hb0to hb.out hb12)); clear hb12))
        go_ret
        exact ⟨rfl, hb0to HBW.out B12.out⟩
set_option maxRecDepth 100000 in
set_option maxHeartbeats 4000000 in
theorem stocks_law (L : HL) (h : House) (one other : Int) (w : World) (hH : HouseAt w w.heap.size L h) :
    Calls Try.prog 9 #[L.enc h, .int .i64 one, .int .i64 other] w fun e w' => e = .returned (.bool true) ∧ Below w.heap.size w w' := by
  cases hr : readyB h
  · obtain ⟨W0, hW0, hM, hbw⟩ := LawN.new hH
    have HR := Lib.hid (ready_any L h W0 hM.H)
    have HBW := Lib.hid hbw
    have HW0 := Lib.hid hW0
    have HRB := Lib.hid hr
    have hc0 := hM.c
    clear hW0 hM hbw hH hr
    obtain ⟨Ak, ck, Ap, cp, Ab, cb⟩ := L
    go_enter Try.func9, Try.ntmps9
    go_upto_region 1 with (fail)
    have e := HW0.out
    rw [e]
    clear e
    go_wp2_with (first
      | (go_at_call 23; refine (HR.out).mono ?_; rintro e w1 ⟨rfl, hb1⟩; rw [HRB.out]; have B1 := Lib.hid hb1; clear hb1)
      | (go_at_call 16; refine (works_any w1).mono ?_; rintro e w7 ⟨rfl, hb7⟩; have B7 := Lib.hid (hb0to B1.out hb7); clear hb7))
    go_ret
    exact ⟨rfl, hb0to HBW.out B7.out⟩
  · have hv := (ready_far hr).2
    cases h1 : inR one 0 999
    · obtain ⟨W0, hW0, hM, hbw⟩ := LawN.new hH
      have HR := Lib.hid (ready_any L h W0 hM.H)
      have HBW := Lib.hid hbw
      have HW0 := Lib.hid hW0
      have HRB := Lib.hid hr
      have H1 := Lib.hid h1
      have hc0 := hM.c
      clear hW0 hM hbw hH hr hv h1
      obtain ⟨Ak, ck, Ap, cp, Ab, cb⟩ := L
      go_enter Try.func9, Try.ntmps9
      go_upto_region 1 with (fail)
      have e := HW0.out
      rw [e]
      clear e
      go_wp2_with (first
        | (go_at_call 23; refine (HR.out).mono ?_; rintro e w1 ⟨rfl, hb1⟩; rw [HRB.out]; have B1 := Lib.hid hb1; clear hb1)
        | (go_at_call 46; (with_reducible refine (rIsStock_any one _).mono ?_); rintro e w' ⟨rfl, rfl⟩; rw [H1.out])
        | (go_at_call 16; refine (works_any w1).mono ?_; rintro e w7 ⟨rfl, hb7⟩; have B7 := Lib.hid (hb0to B1.out hb7); clear hb7))
      go_ret
      exact ⟨rfl, hb0to HBW.out B7.out⟩
    · cases h2 : inR other 0 999
      · obtain ⟨W0, hW0, hM, hbw⟩ := LawN.new hH
        have HR := Lib.hid (ready_any L h W0 hM.H)
        have HBW := Lib.hid hbw
        have HW0 := Lib.hid hW0
        have HRB := Lib.hid hr
        have H1 := Lib.hid h1
        have H2 := Lib.hid h2
        have hc0 := hM.c
        clear hW0 hM hbw hH hr hv h1 h2
        obtain ⟨Ak, ck, Ap, cp, Ab, cb⟩ := L
        go_enter Try.func9, Try.ntmps9
        go_upto_region 1 with (fail)
        have e := HW0.out
        rw [e]
        clear e
        go_wp2_with (first
          | (go_at_call 23; refine (HR.out).mono ?_; rintro e w1 ⟨rfl, hb1⟩; rw [HRB.out]; have B1 := Lib.hid hb1; clear hb1)
          | (go_at_call 46; (with_reducible refine (rIsStock_any one _).mono ?_); rintro e w' ⟨rfl, rfl⟩; rw [H1.out])
          | (go_at_call 46; (with_reducible refine (rIsStock_any other _).mono ?_); rintro e w' ⟨rfl, rfl⟩; rw [H2.out])
          | (go_at_call 16; refine (works_any w1).mono ?_; rintro e w7 ⟨rfl, hb7⟩; have B7 := Lib.hid (hb0to B1.out hb7); clear hb7))
        go_ret
        exact ⟨rfl, hb0to HBW.out B7.out⟩
      · have hV := HOK.ofValid hv
        have HR := Lib.hid (fun W (hW : HouseAt W W.heap.size L h) => show Calls Try.prog 23 #[L.enc h] W fun e w' => e = .returned (.bool true) ∧ Below W.heap.size W w' from by have := ready_any L h W hW; rwa [hr] at this)
        have key : ∀ lo hi : Int, inR lo 0 999 = true → inR hi 0 999 = true → lo ≤ hi → ∃ a1 b1 T m n is, 0 ≤ a1 ∧ a1 ≤ b1 ∧ b1 ≤ T ∧
            (T = a1 ∧ is = true ∧ m ≤ lo ∨ is = true ∧ lo < m ∧ Hid (bareB h = false → a1 ≠ T) ∨ is = false ∧ Hid (bareB h = false → a1 ≠ T)) ∧
            Hid (∀ W, HouseAt W W.heap.size L h → Calls Try.prog 18 #[L.enc h, .int .i64 lo] W fun e w' => e = .returned (.tuple #[.int .i64 a1, .int .i64 0]) ∧ Below W.heap.size W w') ∧
            Hid (∀ W, HouseAt W W.heap.size L h → Calls Try.prog 18 #[L.enc h, .int .i64 hi] W fun e w' => e = .returned (.tuple #[.int .i64 b1, .int .i64 0]) ∧ Below W.heap.size W w') ∧
            Hid (∀ W, HouseAt W W.heap.size L h → Calls Try.prog 44 #[L.enc h] W fun e w' => e = .returned (.tuple #[.int .i64 m, .int .i64 n, .bool is, .bool false]) ∧ Below W.heap.size W w') ∧
            Hid (∀ W, HouseAt W W.heap.size L h → Calls Try.prog 47 #[L.enc h] W fun e w' => e = .returned (.int .i64 T) ∧ Below W.heap.size W w') := fun lo hi hl hh hlh => by
          obtain ⟨e1, e2, q0, q1, q2, q3, q4⟩ := stocks_plain hv hl hh hlh
          refine ⟨(rStockS h lo).1, (rStockS h hi).1, allP h h.ps.length, (leastS h).1, (fewS h).1, isB h, q0, q1, q2, ?_, Lib.hid fun W hW => ?_, Lib.hid fun W hW => ?_, Lib.hid fun W hW => both_any L h hv W hW, Lib.hid fun W hW => all_any47 L h hV W hW⟩
          · cases hi2 : isB h
            · exact .inr (.inr ⟨rfl, Lib.hid fun hb hT => by have := ((q3 hb).1 hT).1; rw [hi2] at this; cases this⟩)
            · by_cases hm : (leastS h).1 ≤ lo
              · exact .inl ⟨(q4 hi2 hm).symm, rfl, hm⟩
              · exact .inr (.inl ⟨rfl, by omega, Lib.hid fun hb hT => hm ((q3 hb).1 hT).2⟩)
          · have := stock_any2 L h (valid_1000 hv) lo W hW
            rwa [e1] at this
          · have := stock_any2 L h (valid_1000 hv) hi W hW
            rwa [e2] at this
        by_cases hle : one < other
        · obtain ⟨a1, b1, T, m, n, is, q0, q1, q2, hc, k1, k2, k3, k4⟩ := key one other h1 h2 (by omega)
          rcases hc with ⟨rfl, rfl, hm⟩ | ⟨rfl, hm, hT⟩ | ⟨rfl, hT⟩
          · exact stocks_1A L h hV one other (Lib.hid h1) (Lib.hid h2) hle _ b1 m n q0 q1 q2 hm HR k1 k2 k3 k4 w hH
          · exact stocks_1B L h hV one other (Lib.hid h1) (Lib.hid h2) hle a1 b1 T m n q0 q1 q2 hm hT HR k1 k2 k3 k4 w hH
          · exact stocks_1C L h hV one other (Lib.hid h1) (Lib.hid h2) hle a1 b1 T m n q0 q1 q2 hT HR k1 k2 k3 k4 w hH
        · by_cases heq : one = other
          · subst heq
            obtain ⟨a1, b1, T, m, n, is, q0, q1, q2, hc, k1, k2, k3, k4⟩ := key one one h1 h1 (Int.le_refl _)
            rcases hc with ⟨rfl, rfl, hm⟩ | ⟨rfl, hm, hT⟩ | ⟨rfl, hT⟩
            · exact stocks_3A L h hV one (Lib.hid h1) (Lib.hid h1) (Int.le_refl _) _ b1 m n q0 q1 q2 hm HR k1 k2 k3 k4 w hH
            · exact stocks_3B L h hV one (Lib.hid h1) (Lib.hid h1) (Int.le_refl _) a1 b1 T m n q0 q1 q2 hm hT HR k1 k2 k3 k4 w hH
            · exact stocks_3C L h hV one (Lib.hid h1) (Lib.hid h1) (Int.le_refl _) a1 b1 T m n q0 q1 q2 hT HR k1 k2 k3 k4 w hH
          · obtain ⟨a1, b1, T, m, n, is, q0, q1, q2, hc, k1, k2, k3, k4⟩ := key other one h2 h1 (by omega)
            rcases hc with ⟨rfl, rfl, hm⟩ | ⟨rfl, hm, hT⟩ | ⟨rfl, hT⟩
            · exact stocks_2A L h hV one other (Lib.hid h1) (Lib.hid h2) (by omega) _ b1 m n q0 q1 q2 hm HR k1 k2 k3 k4 w hH
            · exact stocks_2B L h hV one other (Lib.hid h1) (Lib.hid h2) (by omega) a1 b1 T m n q0 q1 q2 hm hT HR k1 k2 k3 k4 w hH
            · exact stocks_2C L h hV one other (Lib.hid h1) (Lib.hid h2) (by omega) a1 b1 T m n q0 q1 q2 hT HR k1 k2 k3 k4 w hH
end Go.Proofs.Ytgemmmdcpbajoaa
