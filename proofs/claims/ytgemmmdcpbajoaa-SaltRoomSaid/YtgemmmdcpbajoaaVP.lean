import Derived.Test.YtgemmmdcpbajoaaVN
import Derived.Test.YtgemmmdcpbajoaaV9
import Derived.Test.YtgemmmdcpbajoaaVG
namespace Go.Proofs.Ytgemmmdcpbajoaa
open Go.RowKit

/-! SaltBuy. -/
/-- The memory of a law, as it is carried on. -/
structure LawW (W0 W : World) (s : Nat) (L : HL) (h : House) : Prop where
  M : LawN W s L h
  B : Below W0.heap.size W0 W
theorem LawW.next {W0 W W' : World} {s : Nat} {L : HL} {h : House} (H : LawW W0 W s L h) (hb : Below W.heap.size W W') : LawW W0 W' s L h := ⟨H.M.next hb, hb0to H.B hb⟩
theorem LawW.new {W : World} {s : Nat} {L : HL} {h : House} (H : LawN W s L h) : LawW W W s L h := ⟨H, Below.refl _ _⟩
set_option maxRecDepth 100000 in
set_option maxHeartbeats 4000000 in
theorem buy_no (L : HL) (h : House) (size : Int) (HR : Hid (∀ W, HouseAt W W.heap.size L h → Calls Try.prog 23 #[L.enc h] W fun e w' => e = .returned (.bool false) ∧ Below W.heap.size W w')) (w : World) (hH : HouseAt w w.heap.size L h) :
    Calls Try.prog 10 #[L.enc h, .int .i64 size] w fun e w' => e = .returned (.bool true) ∧ Below w.heap.size w w' := by
  obtain ⟨W0, hW0, hM, hbw⟩ := LawN.new hH
  have HBW := Lib.hid hbw
  have HW0 := Lib.hid hW0
  have M0 := Lib.hid (LawW.new hM)
  have hc0 := hM.c
  clear hW0 hM hbw hH
  obtain ⟨Ak, ck, Ap, cp, Ab, cb⟩ := L
  go_enter Try.func10, Try.ntmps10
  go_upto_region 1 with (fail)
  have e := HW0.out
  rw [e]
  clear e
  go_wp2_with (first
    | (go_at_call 23; refine (HR.out W0 M0.out.M.H).mono ?_; rintro e w1 ⟨rfl, hb1⟩; have M1 := Lib.hid (M0.out.next hb1); clear hb1)
    | (go_at_call 16; refine (works_any w1).mono ?_; rintro e w2 ⟨rfl, hb2⟩; have M2 := Lib.hid (M1.out.next hb2); clear hb2))
  go_ret
  exact ⟨rfl, hb0to HBW.out M2.out.B⟩
set_option maxRecDepth 100000 in
set_option maxHeartbeats 4000000 in
theorem buy_full4 (L : HL) (h : House) (size : Int) (hb4 : h.bs.length = 4) (m f n e : Int) (is : Bool) (hc : (is = true ∧ e = 0 ∧ n = 0) ∨ (is = false ∧ e = 2 ∧ n = 0))
    (HR : Hid (∀ W, HouseAt W W.heap.size L h → Calls Try.prog 23 #[L.enc h] W fun e w' => e = .returned (.bool true) ∧ Below W.heap.size W w'))
    (H20 : Hid (∀ W, HouseAt W W.heap.size L h → Calls Try.prog 20 #[L.enc h] W fun e' w' => e' = .returned (.tuple #[.int .i64 n, .int .i64 e]) ∧ Below W.heap.size W w'))
    (H44 : Hid (∀ W, HouseAt W W.heap.size L h → Calls Try.prog 44 #[L.enc h] W fun e w' => e = .returned (.tuple #[.int .i64 m, .int .i64 f, .bool is, .bool false]) ∧ Below W.heap.size W w')) (w : World) (hH : HouseAt w w.heap.size L h) :
    Calls Try.prog 10 #[L.enc h, .int .i64 size] w fun e w' => e = .returned (.bool true) ∧ Below w.heap.size w w' := by
  obtain ⟨W0, hW0, hM, hbw⟩ := LawN.new hH
  have HBW := Lib.hid hbw
  have HW0 := Lib.hid hW0
  have M0 := Lib.hid (LawW.new hM)
  have hc0 := hM.c
  have hd4 : ((h.bs.length : Int) == 4) = true := beq_iff_eq.2 (by omega)
  clear hW0 hM hbw hH hb4
  obtain ⟨Ak, ck, Ap, cp, Ab, cb⟩ := L
  rcases hc with ⟨rfl, rfl, rfl⟩ | ⟨rfl, rfl, rfl⟩
  all_goals
    as_aux_lemma =>
    go_enter Try.func10, Try.ntmps10
    go_upto_region 1 with (fail)
    have e := HW0.out
    rw [e]
    clear e
    go_wp2_with (first
      | (go_at_call 23; refine (HR.out W0 M0.out.M.H).mono ?_; rintro e w1 ⟨rfl, hb1⟩; have M1 := Lib.hid (M0.out.next hb1); have m1 := M1.out.M.c; clear hb1)
      | (go_at_call 20; refine (H20.out w1 M1.out.M.H).mono ?_; rintro e w2 ⟨rfl, hb2⟩; have M2 := Lib.hid (M1.out.next hb2); have m2 := M2.out.M.c; clear hb2)
      | (go_at_call 44; refine (H44.out w2 M2.out.M.H).mono ?_; rintro e w3 ⟨rfl, hb3⟩; have M3 := Lib.hid (M2.out.next hb3); have m3 := M3.out.M.c; clear hb3)
      | (go_at_call 16; refine (works_any w3).mono ?_; rintro e w4 ⟨rfl, hb4⟩; have M4 := Lib.hid (M3.out.next hb4); clear hb4))
    go_ret
    exact ⟨rfl, hb0to HBW.out M4.out.B⟩
set_option maxRecDepth 100000 in
set_option maxHeartbeats 4000000 in
theorem buy_out (L : HL) (h : House) (size : Int) (hsz : inR size 0 99 = false) (hb4 : h.bs.length < 4) (m f n e : Int) (is : Bool) (hc : (is = true ∧ e = 0 ∧ n = 0) ∨ (is = false ∧ e = 3 ∧ n = 0) ∨ (is = false ∧ e = 0 ∧ 0 ≤ n ∧ n ≤ 99))
    (HR : Hid (∀ W, HouseAt W W.heap.size L h → Calls Try.prog 23 #[L.enc h] W fun e w' => e = .returned (.bool true) ∧ Below W.heap.size W w'))
    (H20 : Hid (∀ W, HouseAt W W.heap.size L h → Calls Try.prog 20 #[L.enc h] W fun e' w' => e' = .returned (.tuple #[.int .i64 n, .int .i64 e]) ∧ Below W.heap.size W w'))
    (H44 : Hid (∀ W, HouseAt W W.heap.size L h → Calls Try.prog 44 #[L.enc h] W fun e w' => e = .returned (.tuple #[.int .i64 m, .int .i64 f, .bool is, .bool false]) ∧ Below W.heap.size W w')) (w : World) (hH : HouseAt w w.heap.size L h) :
    Calls Try.prog 10 #[L.enc h, .int .i64 size] w fun e w' => e = .returned (.bool true) ∧ Below w.heap.size w w' := by
  obtain ⟨W0, hW0, hM, hbw⟩ := LawN.new hH
  have HBW := Lib.hid hbw
  have HW0 := Lib.hid hW0
  have M0 := Lib.hid (LawW.new hM)
  have hc0 := hM.c
  have HSZ := Lib.hid hsz
  have hd4 : ((h.bs.length : Int) == 4) = false := beq_eq_false_iff_ne.2 (by omega)
  clear hW0 hM hbw hH hsz
  obtain ⟨Ak, ck, Ap, cp, Ab, cb⟩ := L
  rcases hc with ⟨rfl, rfl, rfl⟩ | ⟨rfl, rfl, rfl⟩ | ⟨rfl, rfl, n0, n9⟩
  all_goals
    as_aux_lemma =>
    go_enter Try.func10, Try.ntmps10
    go_upto_region 1 with (fail)
    have e := HW0.out
    rw [e]
    clear e
    go_wp2_with (first
      | (go_at_call 23; refine (HR.out W0 M0.out.M.H).mono ?_; rintro e w1 ⟨rfl, hb1⟩; have M1 := Lib.hid (M0.out.next hb1); have m1 := M1.out.M.c; clear hb1)
      | (go_at_call 20; refine (H20.out w1 M1.out.M.H).mono ?_; rintro e w2 ⟨rfl, hb2⟩; have M2 := Lib.hid (M1.out.next hb2); have m2 := M2.out.M.c; clear hb2)
      | (go_at_call 44; refine (H44.out w2 M2.out.M.H).mono ?_; rintro e w3 ⟨rfl, hb3⟩; have M3 := Lib.hid (M2.out.next hb3); have m3 := M3.out.M.c; clear hb3)
      | (go_at_call 48; refine (within1_any size 0 99 _).mono ?_; rintro e w' ⟨rfl, rfl⟩; rw [HSZ.out])
      | (go_at_call 16; refine (works_any w3).mono ?_; rintro e w4 ⟨rfl, hb4⟩; have M4 := Lib.hid (M3.out.next hb4); clear hb4))
    go_ret
    exact ⟨rfl, hb0to HBW.out M4.out.B⟩
set_option maxRecDepth 100000 in
set_option maxHeartbeats 4000000 in
theorem buy_unready (L : HL) (h : House) (size : Int) (hsz : inR size 0 99 = true) (hb4 : h.bs.length < 4) (m f n e : Int) (is : Bool) (hc : (is = true ∧ e = 0 ∧ n = 0) ∨ (is = false ∧ e = 3 ∧ n = 0) ∨ (is = false ∧ e = 0 ∧ 0 ≤ n ∧ n ≤ 99))
    (HR : Hid (∀ W, HouseAt W W.heap.size L h → Calls Try.prog 23 #[L.enc h] W fun e w' => e = .returned (.bool true) ∧ Below W.heap.size W w'))
    (H20 : Hid (∀ W, HouseAt W W.heap.size L h → Calls Try.prog 20 #[L.enc h] W fun e' w' => e' = .returned (.tuple #[.int .i64 n, .int .i64 e]) ∧ Below W.heap.size W w'))
    (H44 : Hid (∀ W, HouseAt W W.heap.size L h → Calls Try.prog 44 #[L.enc h] W fun e w' => e = .returned (.tuple #[.int .i64 m, .int .i64 f, .bool is, .bool false]) ∧ Below W.heap.size W w'))
    (H49 : Hid (∀ W, HouseAt W W.heap.size L h → Calls Try.prog 49 #[L.enc h, .int .i64 size] W fun e w' => CopyRet (moreH h size) W.heap.size w' e ∧ Below W.heap.size W w'))
    (H23 : Hid (∀ (L2 : HL) W, HouseAt W W.heap.size L2 (moreH h size) → Calls Try.prog 23 #[L2.enc (moreH h size)] W fun e w' => e = .returned (.bool false) ∧ Below W.heap.size W w')) (w : World) (hH : HouseAt w w.heap.size L h) :
    Calls Try.prog 10 #[L.enc h, .int .i64 size] w fun e w' => e = .returned (.bool true) ∧ Below w.heap.size w w' := by
  obtain ⟨W0, hW0, hM, hbw⟩ := LawN.new hH
  have HBW := Lib.hid hbw
  have HW0 := Lib.hid hW0
  have M0 := Lib.hid (LawW.new hM)
  have hc0 := hM.c
  have HSZ := Lib.hid hsz
  have hd4 : ((h.bs.length : Int) == 4) = false := beq_eq_false_iff_ne.2 (by omega)
  clear hW0 hM hbw hH hsz
  obtain ⟨Ak, ck, Ap, cp, Ab, cb⟩ := L
  rcases hc with ⟨rfl, rfl, rfl⟩ | ⟨rfl, rfl, rfl⟩ | ⟨rfl, rfl, n0, n9⟩
  all_goals
    as_aux_lemma =>
    go_enter Try.func10, Try.ntmps10
    go_upto_region 1 with (fail)
    have e := HW0.out
    rw [e]
    clear e
    go_wp2_with (first
      | (go_at_call 23; (with_reducible refine (H23.out ⟨Bk, dk, Bp, dp, Bb, db⟩ w4 C4.out).mono ?_); rintro e w5 ⟨rfl, hb5⟩; have M5 := Lib.hid (M4.out.next hb5); clear hb5)
      | (go_at_call 23; (with_reducible refine (HR.out W0 M0.out.M.H).mono ?_); rintro e w1 ⟨rfl, hb1⟩; have M1 := Lib.hid (M0.out.next hb1); have m1 := M1.out.M.c; clear hb1)
      | (go_at_call 20; refine (H20.out w1 M1.out.M.H).mono ?_; rintro e w2 ⟨rfl, hb2⟩; have M2 := Lib.hid (M1.out.next hb2); have m2 := M2.out.M.c; clear hb2)
      | (go_at_call 44; refine (H44.out w2 M2.out.M.H).mono ?_; rintro e w3 ⟨rfl, hb3⟩; have M3 := Lib.hid (M2.out.next hb3); have m3 := M3.out.M.c; clear hb3)
      | (go_at_call 48; refine (within1_any size 0 99 _).mono ?_; rintro e w' ⟨rfl, rfl⟩; rw [HSZ.out])
      | (go_at_call 49; refine (H49.out w3 M3.out.M.H).mono ?_; rintro e w4 ⟨⟨⟨Bk, dk, Bp, dp, Bb, db⟩, n1, n2, rfl, hC4⟩, hb4'⟩; have C4 := Lib.hid hC4.house; have M4 := Lib.hid (M3.out.next hb4'); have m4 := M4.out.M.c; clear hC4 hb4')
      | (go_at_call 16; refine (works_any w5).mono ?_; rintro e w6 ⟨rfl, hb6⟩; have M6 := Lib.hid (M5.out.next hb6); clear hb6))
    go_ret
    exact ⟨rfl, hb0to HBW.out M6.out.B⟩
set_option maxRecDepth 100000 in
set_option maxHeartbeats 4000000 in
theorem buy_more (L : HL) (h : House) (size : Int) (hsz : inR size 0 99 = true) (hb4 : h.bs.length < 4) (m f n e m2 f2 : Int) (is so : Bool)
    (hc : (is = true ∧ e = 0 ∧ n = 0 ∧ so = true) ∨ (is = false ∧ e = 3 ∧ n = 0 ∧ so = false) ∨ (is = false ∧ e = 0 ∧ 0 ≤ n ∧ n ≤ 99 ∧ so = true ∧ decide (n ≤ size) = true) ∨ (is = false ∧ e = 0 ∧ 0 ≤ n ∧ n ≤ 99 ∧ so = false ∧ decide (n ≤ size) = false))
    (HR : Hid (∀ W, HouseAt W W.heap.size L h → Calls Try.prog 23 #[L.enc h] W fun e w' => e = .returned (.bool true) ∧ Below W.heap.size W w'))
    (H20 : Hid (∀ W, HouseAt W W.heap.size L h → Calls Try.prog 20 #[L.enc h] W fun e' w' => e' = .returned (.tuple #[.int .i64 n, .int .i64 e]) ∧ Below W.heap.size W w'))
    (H44 : Hid (∀ W, HouseAt W W.heap.size L h → Calls Try.prog 44 #[L.enc h] W fun e w' => e = .returned (.tuple #[.int .i64 m, .int .i64 f, .bool is, .bool false]) ∧ Below W.heap.size W w'))
    (H49 : Hid (∀ W, HouseAt W W.heap.size L h → Calls Try.prog 49 #[L.enc h, .int .i64 size] W fun e w' => CopyRet (moreH h size) W.heap.size w' e ∧ Below W.heap.size W w'))
    (H23 : Hid (∀ (L2 : HL) W, HouseAt W W.heap.size L2 (moreH h size) → Calls Try.prog 23 #[L2.enc (moreH h size)] W fun e w' => e = .returned (.bool true) ∧ Below W.heap.size W w'))
    (H44b : Hid (∀ (L2 : HL) W, HouseAt W W.heap.size L2 (moreH h size) → Calls Try.prog 44 #[L2.enc (moreH h size)] W fun e w' => e = .returned (.tuple #[.int .i64 m2, .int .i64 f2, .bool so, .bool false]) ∧ Below W.heap.size W w')) (w : World) (hH : HouseAt w w.heap.size L h) :
    Calls Try.prog 10 #[L.enc h, .int .i64 size] w fun e w' => e = .returned (.bool true) ∧ Below w.heap.size w w' := by
  obtain ⟨W0, hW0, hM, hbw⟩ := LawN.new hH
  have HBW := Lib.hid hbw
  have HW0 := Lib.hid hW0
  have M0 := Lib.hid (LawW.new hM)
  have hc0 := hM.c
  have HSZ := Lib.hid hsz
  have hd4 : ((h.bs.length : Int) == 4) = false := beq_eq_false_iff_ne.2 (by omega)
  clear hW0 hM hbw hH hsz
  obtain ⟨Ak, ck, Ap, cp, Ab, cb⟩ := L
  rcases hc with ⟨rfl, rfl, rfl, rfl⟩ | ⟨rfl, rfl, rfl, rfl⟩ | ⟨rfl, rfl, n0, n9, rfl, hle⟩ | ⟨rfl, rfl, n0, n9, rfl, hle⟩
  all_goals
    as_aux_lemma =>
    go_enter Try.func10, Try.ntmps10
    go_upto_region 1 with (fail)
    have e := HW0.out
    rw [e]
    clear e
    go_wp2_with (first
      | (go_at_call 23; (with_reducible refine (H23.out ⟨Bk, dk, Bp, dp, Bb, db⟩ w4 C4.out).mono ?_); rintro e w5 ⟨rfl, hb5⟩; have M5 := Lib.hid (M4.out.next hb5); have m5 := M5.out.M.c; clear hb5)
      | (go_at_call 23; (with_reducible refine (HR.out W0 M0.out.M.H).mono ?_); rintro e w1 ⟨rfl, hb1⟩; have M1 := Lib.hid (M0.out.next hb1); have m1 := M1.out.M.c; clear hb1)
      | (go_at_call 20; refine (H20.out w1 M1.out.M.H).mono ?_; rintro e w2 ⟨rfl, hb2⟩; have M2 := Lib.hid (M1.out.next hb2); have m2 := M2.out.M.c; clear hb2)
      | (go_at_call 44; (with_reducible refine (H44b.out ⟨Ck, ek, Cp, ep, Cb, eb⟩ w6 C6.out).mono ?_); rintro e w7 ⟨rfl, hb7⟩; have M7 := Lib.hid (M6.out.next hb7); clear hb7)
      | (go_at_call 44; (with_reducible refine (H44.out w2 M2.out.M.H).mono ?_); rintro e w3 ⟨rfl, hb3⟩; have M3 := Lib.hid (M2.out.next hb3); have m3 := M3.out.M.c; clear hb3)
      | (go_at_call 48; refine (within1_any size 0 99 _).mono ?_; rintro e w' ⟨rfl, rfl⟩; rw [HSZ.out])
      | (go_at_call 49; (with_reducible refine (H49.out w5 M5.out.M.H).mono ?_); rintro e w6 ⟨⟨⟨Ck, ek, Cp, ep, Cb, eb⟩, n1, n2, rfl, hC6⟩, hb6⟩; have C6 := Lib.hid hC6.house; have M6 := Lib.hid (M5.out.next hb6); clear hC6 hb6)
      | (go_at_call 49; (with_reducible refine (H49.out w3 M3.out.M.H).mono ?_); rintro e w4 ⟨⟨⟨Bk, dk, Bp, dp, Bb, db⟩, n1, n2, rfl, hC4⟩, hb4'⟩; have C4 := Lib.hid hC4.house; have M4 := Lib.hid (M3.out.next hb4'); have m4 := M4.out.M.c; clear hC4 hb4')
      | (go_at_call 16; refine (works_any w7).mono ?_; rintro e w8 ⟨rfl, hb8⟩; have M8 := Lib.hid (M7.out.next hb8); clear hb8))
    go_ret
    exact ⟨rfl, hb0to HBW.out M8.out.B⟩
theorem buy_law (L : HL) (h : House) (hok : HLOK L h) (hcb : h.bs.length ≤ L.cb ∧ L.cb ≤ 9223372036854775807) (size : Int) (w : World) (hH : HouseAt w w.heap.size L h) :
    Calls Try.prog 10 #[L.enc h, .int .i64 size] w fun e w' => e = .returned (.bool true) ∧ Below w.heap.size w w' := by
  by_cases hr : readyB h = true
  · have hv := (ready_far hr).2
    have hV := HOK.ofValid hv
    have hbl := hV.bl
    have hn := valid_1000 hv
    have HR := Lib.hid (fun W (hW : HouseAt W W.heap.size L h) => by have := ready_any L h W hW; rwa [hr] at this)
    have H20 := Lib.hid (fun W (hW : HouseAt W W.heap.size L h) => buy_any L h hn ⟨hcb.1, fun e => (hok.b e).1, hcb.2⟩ W hW)
    have H44 := Lib.hid (both_any L h hv)
    by_cases h4 : h.bs.length = 4
    · refine buy_full4 L h size h4 _ _ _ _ _ ?_ HR H20 H44 w hH
      rw [buy_full hv h4]
      by_cases hi : isB h = true
      · exact .inl ⟨hi, by rw [if_pos hi], by rw [if_pos hi]⟩
      · exact .inr ⟨by simpa using hi, by rw [if_neg hi], by rw [if_neg hi]⟩
    · have hl : h.bs.length < 4 := by omega
      have hc0 : ∀ s, inR s 0 99 = true → (isB h = true ∧ (buyRet h).2 = 0 ∧ (buyRet h).1 = 0 ∧ isB (moreH h s) = true) ∨ (isB h = false ∧ (buyRet h).2 = 3 ∧ (buyRet h).1 = 0 ∧ isB (moreH h s) = false) ∨ (isB h = false ∧ (buyRet h).2 = 0 ∧ 0 ≤ (buyRet h).1 ∧ (buyRet h).1 ≤ 99 ∧ isB (moreH h s) = true ∧ decide ((buyRet h).1 ≤ s) = true) ∨ (isB h = false ∧ (buyRet h).2 = 0 ∧ 0 ≤ (buyRet h).1 ∧ (buyRet h).1 ≤ 99 ∧ isB (moreH h s) = false ∧ decide ((buyRet h).1 ≤ s) = false) := fun s hs => by
        obtain ⟨p1, p2, p3⟩ := buy_plain hv hl hs
        by_cases hi : isB h = true
        · rw [p1 hi]; exact .inl ⟨hi, rfl, rfl, p3 hi⟩
        · have hi : isB h = false := by simpa using hi
          rcases p2 hi with ⟨e1, e2⟩ | ⟨e1, e2, e3, e4⟩
          · rw [e1]; exact .inr (.inl ⟨hi, rfl, rfl, e2⟩)
          · by_cases hle : (buyRet h).1 ≤ s
            · exact .inr (.inr (.inl ⟨hi, e1, e2, e3, e4.2 hle, decide_eq_true hle⟩))
            · exact .inr (.inr (.inr ⟨hi, e1, e2, e3, by cases ej : isB (moreH h s); rfl; exact absurd (e4.1 ej) hle, decide_eq_false hle⟩))
      by_cases hs : inR size 0 99 = true
      · have hv2 := valid_more hv hl hs
        have H49 := Lib.hid (fun W (hW : HouseAt W W.heap.size L h) => more_any L h hn hok size W hW)
        by_cases hr2 : readyB (moreH h size) = true
        · exact buy_more L h size hs hl _ _ _ _ _ _ _ _ (hc0 size hs) HR H20 H44 H49 (Lib.hid (fun L2 W hW => by have := ready_any L2 (moreH h size) W hW; rwa [hr2] at this)) (Lib.hid (fun L2 => both_any L2 (moreH h size) hv2)) w hH
        · refine buy_unready L h size hs hl _ _ _ _ _ ?_ HR H20 H44 H49 (Lib.hid (fun L2 W hW => by have := ready_any L2 (moreH h size) W hW; rwa [show readyB (moreH h size) = false by simpa using hr2] at this)) w hH
          rcases hc0 0 (by decide) with h1 | h1 | h1 | h1
          · exact .inl ⟨h1.1, h1.2.1, h1.2.2.1⟩
          · exact .inr (.inl ⟨h1.1, h1.2.1, h1.2.2.1⟩)
          · exact .inr (.inr ⟨h1.1, h1.2.1, h1.2.2.1, h1.2.2.2.1⟩)
          · exact .inr (.inr ⟨h1.1, h1.2.1, h1.2.2.1, h1.2.2.2.1⟩)
      · refine buy_out L h size (by simpa using hs) hl _ _ _ _ _ ?_ HR H20 H44 w hH
        rcases hc0 0 (by decide) with h1 | h1 | h1 | h1
        · exact .inl ⟨h1.1, h1.2.1, h1.2.2.1⟩
        · exact .inr (.inl ⟨h1.1, h1.2.1, h1.2.2.1⟩)
        · exact .inr (.inr ⟨h1.1, h1.2.1, h1.2.2.1, h1.2.2.2.1⟩)
        · exact .inr (.inr ⟨h1.1, h1.2.1, h1.2.2.1, h1.2.2.2.1⟩)
  · exact buy_no L h size (Lib.hid (fun W hW => by have := ready_any L h W hW; rwa [show readyB h = false by simpa using hr] at this)) w hH
end Go.Proofs.Ytgemmmdcpbajoaa
