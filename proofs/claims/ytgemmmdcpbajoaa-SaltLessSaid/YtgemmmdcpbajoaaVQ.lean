import Derived.Test.YtgemmmdcpbajoaaVO
import Derived.Test.YtgemmmdcpbajoaaVP
namespace Go.Proofs.Ytgemmmdcpbajoaa
open Go.RowKit

/-! SaltLess. -/
set_option maxRecDepth 100000 in
set_option maxHeartbeats 4000000 in
theorem less_no (L : HL) (h : House) (part : Int) (r : Bool) (hr : r = false ∨ (r = true ∧ h.ps.length ≤ 1000 ∧ inR part 0 (h.ps.length - 1) = false)) (HR : Hid (∀ W, HouseAt W W.heap.size L h → Calls Try.prog 23 #[L.enc h] W fun e w' => e = .returned (.bool r) ∧ Below W.heap.size W w')) (w : World) (hH : HouseAt w w.heap.size L h) :
    Calls Try.prog 7 #[L.enc h, .int .i64 part] w fun e w' => e = .returned (.bool true) ∧ Below w.heap.size w w' := by
  obtain ⟨W0, hW0, hM, hbw⟩ := LawN.new hH
  have HBW := Lib.hid hbw
  have HW0 := Lib.hid hW0
  have M0 := Lib.hid (LawW.new hM)
  have hc0 := hM.c
  clear hW0 hM hbw hH
  rcases hr with rfl | ⟨rfl, hn, hz⟩
  · obtain ⟨Ak, ck, Ap, cp, Ab, cb⟩ := L
    go_enter Try.func7, Try.ntmps7
    go_upto_region 1 with (fail)
    have e := HW0.out
    rw [e]
    clear e
    go_wp2_with (first
      | (go_at_call 23; refine (HR.out W0 M0.out.M.H).mono ?_; rintro e w1 ⟨rfl, hb1⟩; have M1 := Lib.hid (M0.out.next hb1); clear hb1)
      | (go_at_call 16; refine (works_any w1).mono ?_; rintro e w2 ⟨rfl, hb2⟩; have M2 := Lib.hid (M1.out.next hb2); clear hb2))
    go_ret
    exact ⟨rfl, hb0to HBW.out M2.out.B⟩
  · have HP := Lib.hid (fun W => rIsPart_any L h part W hn)
    rw [hz] at HP
    clear hz hn
    obtain ⟨Ak, ck, Ap, cp, Ab, cb⟩ := L
    go_enter Try.func7, Try.ntmps7
    go_upto_region 1 with (fail)
    have e := HW0.out
    rw [e]
    clear e
    go_wp2_with (first
      | (go_at_call 23; refine (HR.out W0 M0.out.M.H).mono ?_; rintro e w1 ⟨rfl, hb1⟩; have M1 := Lib.hid (M0.out.next hb1); have m1 := M1.out.M.c; clear hb1)
      | (go_at_call 42; refine (HP.out w1).mono ?_; rintro e w2 ⟨rfl, hb2⟩; have M2 := Lib.hid (M1.out.next hb2); clear hb2)
      | (go_at_call 16; refine (works_any w2).mono ?_; rintro e w3 ⟨rfl, hb3⟩; have M3 := Lib.hid (M2.out.next hb3); clear hb3))
    go_ret
    exact ⟨rfl, hb0to HBW.out M3.out.B⟩
/-- The memory of a law with a second house in a box of its own. -/
structure LawW2 (W0 W : World) (s bo : Nat) (L Lo : HL) (h o : House) : Prop where
  M : LawN W s L h
  O : HouseAt W W.heap.size Lo o
  y : HBox W bo Lo o
  B : Below W0.heap.size W0 W
theorem LawW2.next {W0 W W' : World} {s bo : Nat} {L Lo : HL} {h o : House} (H : LawW2 W0 W s bo L Lo h o) (hb : Below W.heap.size W W') : LawW2 W0 W' s bo L Lo h o := ⟨H.M.next hb, H.O.below hb, H.y.of (hb.block _ H.y.lt), hb0to H.B hb⟩
theorem LawW2.new {W0 W : World} {s : Nat} {L Lo : HL} {h o : House} (H : LawW W0 W s L h) (O : HouseAt W W.heap.size Lo o) : LawW2 W0 (W.alloc (.cells #[.slice Lo.Ak o.ks.length Lo.ck, .int .i64 o.fl, .slice Lo.Ap o.ps.length Lo.cp, .slice Lo.Ab o.bs.length Lo.cb] 26)) s W.heap.size L Lo h o := by
  have hb := (Below.refl _ W).alloc (Nat.le_refl _) (.cells #[.slice Lo.Ak o.ks.length Lo.ck, .int .i64 o.fl, .slice Lo.Ap o.ps.length Lo.cp, .slice Lo.Ab o.bs.length Lo.cb] 26)
  have H2 := H.next hb
  exact ⟨H2.M, O.below hb, HBox.new W Lo o, H2.B⟩
set_option maxRecDepth 100000 in
set_option maxHeartbeats 4000000 in
theorem less_yes (L : HL) (h o : House) (part : Int) (hn : h.ps.length ≤ 1000) (hp : inR part 0 (h.ps.length - 1) = true) (m n m2 n2 a e b f : Int) (is so : Bool)
    (hc : (is = false ∧ e ≠ 0) ∨ (is = false ∧ e = 0 ∧ f = 0 ∧ b ≤ a ∧ a ≤ 99) ∨ (is = true ∧ so = true ∧ m2 ≤ m ∧ n2 ≤ n ∧ e = 0 ∧ f = 0 ∧ b ≤ a ∧ a ≤ 99))
    (HR : Hid (∀ W, HouseAt W W.heap.size L h → Calls Try.prog 23 #[L.enc h] W fun e w' => e = .returned (.bool true) ∧ Below W.heap.size W w'))
    (H43 : Hid (∀ W, HouseAt W W.heap.size L h → Calls Try.prog 43 #[L.enc h, .int .i64 part] W fun e w' => WithRet o w' e ∧ Below W.heap.size W w'))
    (H44 : Hid (∀ W, HouseAt W W.heap.size L h → Calls Try.prog 44 #[L.enc h] W fun e w' => e = .returned (.tuple #[.int .i64 m, .int .i64 n, .bool is, .bool false]) ∧ Below W.heap.size W w'))
    (H20 : Hid (∀ W, HouseAt W W.heap.size L h → Calls Try.prog 20 #[L.enc h] W fun e' w' => e' = .returned (.tuple #[.int .i64 a, .int .i64 e]) ∧ Below W.heap.size W w'))
    (H44b : Hid (∀ (L2 : HL) W, HouseAt W W.heap.size L2 o → Calls Try.prog 44 #[L2.enc o] W fun e w' => e = .returned (.tuple #[.int .i64 m2, .int .i64 n2, .bool so, .bool false]) ∧ Below W.heap.size W w'))
    (H20b : Hid (∀ (L2 : HL), o.bs.length ≤ L2.cb → (L2.Ab = none → L2.cb = 0) → L2.cb ≤ 9223372036854775807 → ∀ W, HouseAt W W.heap.size L2 o → Calls Try.prog 20 #[L2.enc o] W fun e' w' => e' = .returned (.tuple #[.int .i64 b, .int .i64 f]) ∧ Below W.heap.size W w')) (w : World) (hH : HouseAt w w.heap.size L h) :
    Calls Try.prog 7 #[L.enc h, .int .i64 part] w fun e w' => e = .returned (.bool true) ∧ Below w.heap.size w w' := by
  obtain ⟨W0, hW0, hM, hbw⟩ := LawN.new hH
  have HBW := Lib.hid hbw
  have HW0 := Lib.hid hW0
  have M0 := Lib.hid (LawW.new hM)
  have hc0 := hM.c
  have HP := Lib.hid (fun W => rIsPart_any L h part W hn)
  rw [hp] at HP
  clear hW0 hM hbw hH hn hp
  obtain ⟨Ak, ck, Ap, cp, Ab, cb⟩ := L
  rcases hc with ⟨rfl, he⟩ | ⟨rfl, rfl, rfl, hba, ha9⟩ | ⟨rfl, rfl, hm, hn2, rfl, rfl, hba, ha9⟩
  · have he' : (e != 0) = true := bne_iff_ne.2 he
    clear he
    go_enter Try.func7, Try.ntmps7
    go_upto_region 1 with (fail)
    have e := HW0.out
    rw [e]
    clear e
    go_wp2_with (first
      | (go_at_call 23; refine (HR.out W0 M0.out.M.H).mono ?_; rintro e w1 ⟨rfl, hb1⟩; have M1 := Lib.hid (M0.out.next hb1); have m1 := M1.out.M.c; clear hb1)
      | (go_at_call 42; refine (HP.out w1).mono ?_; rintro e w2 ⟨rfl, hb2⟩; have M2 := Lib.hid (M1.out.next hb2); have m2 := M2.out.M.c; clear hb2)
      | (go_at_call 43; refine (H43.out w2 M2.out.M.H).mono ?_; rintro e w3 ⟨⟨⟨Bk, dk, Bp, dp, Bb, db⟩, rfl, hO, q1, q2, q3⟩, hb3⟩; have N3 := Lib.hid (LawW2.new (M2.out.next hb3) hO); have Q1 := Lib.hid q1; have Q2 := Lib.hid q2; have Q3 := Lib.hid q3; have m3 := N3.out.M.c; have y3 := N3.out.y.cells; clear hO q1 q2 q3 hb3)
      | (go_at_call 44; (with_reducible refine (H44b.out ⟨Bk, dk, Bp, dp, Bb, db⟩ w4 N4.out.O).mono ?_); rintro e w5 ⟨rfl, hb5⟩; have N5 := Lib.hid (N4.out.next hb5); have m5 := N5.out.M.c; clear hb5)
      | (go_at_call 44; (with_reducible refine (H44.out _ N3.out.M.H).mono ?_); rintro e w4 ⟨rfl, hb4⟩; have N4 := Lib.hid (N3.out.next hb4); have y4 := N4.out.y.cells; clear hb4)
      | (go_at_call 20; (with_reducible refine (H20b.out ⟨Bk, dk, Bp, dp, Bb, db⟩ Q1.out Q2.out Q3.out w6 N6.out.O).mono ?_); rintro e w7 ⟨rfl, hb7⟩; have N7 := Lib.hid (N6.out.next hb7); clear hb7)
      | (go_at_call 20; (with_reducible refine (H20.out w5 N5.out.M.H).mono ?_); rintro e w6 ⟨rfl, hb6⟩; have N6 := Lib.hid (N5.out.next hb6); have y6 := N6.out.y.cells; clear hb6)
      | (go_at_call 16; refine (works_any w7).mono ?_; rintro e w8 ⟨rfl, hb8⟩; have N8 := Lib.hid (N7.out.next hb8); clear hb8))
    go_ret
    exact ⟨rfl, hb0to HBW.out N8.out.B⟩
  all_goals
    go_enter Try.func7, Try.ntmps7
    go_upto_region 1 with (fail)
    have e := HW0.out
    rw [e]
    clear e
    go_wp2_with (first
      | (go_at_call 23; refine (HR.out W0 M0.out.M.H).mono ?_; rintro e w1 ⟨rfl, hb1⟩; have M1 := Lib.hid (M0.out.next hb1); have m1 := M1.out.M.c; clear hb1)
      | (go_at_call 42; refine (HP.out w1).mono ?_; rintro e w2 ⟨rfl, hb2⟩; have M2 := Lib.hid (M1.out.next hb2); have m2 := M2.out.M.c; clear hb2)
      | (go_at_call 43; refine (H43.out w2 M2.out.M.H).mono ?_; rintro e w3 ⟨⟨⟨Bk, dk, Bp, dp, Bb, db⟩, rfl, hO, q1, q2, q3⟩, hb3⟩; have N3 := Lib.hid (LawW2.new (M2.out.next hb3) hO); have Q1 := Lib.hid q1; have Q2 := Lib.hid q2; have Q3 := Lib.hid q3; have m3 := N3.out.M.c; have y3 := N3.out.y.cells; clear hO q1 q2 q3 hb3)
      | (go_at_call 44; (with_reducible refine (H44b.out ⟨Bk, dk, Bp, dp, Bb, db⟩ w4 N4.out.O).mono ?_); rintro e w5 ⟨rfl, hb5⟩; have N5 := Lib.hid (N4.out.next hb5); have m5 := N5.out.M.c; clear hb5)
      | (go_at_call 44; (with_reducible refine (H44.out _ N3.out.M.H).mono ?_); rintro e w4 ⟨rfl, hb4⟩; have N4 := Lib.hid (N3.out.next hb4); have y4 := N4.out.y.cells; clear hb4)
      | (go_at_call 20; (with_reducible refine (H20b.out ⟨Bk, dk, Bp, dp, Bb, db⟩ Q1.out Q2.out Q3.out w6 N6.out.O).mono ?_); rintro e w7 ⟨rfl, hb7⟩; have N7 := Lib.hid (N6.out.next hb7); clear hb7)
      | (go_at_call 20; (with_reducible refine (H20.out w5 N5.out.M.H).mono ?_); rintro e w6 ⟨rfl, hb6⟩; have N6 := Lib.hid (N5.out.next hb6); have y6 := N6.out.y.cells; clear hb6)
      | (go_at_call 16; refine (works_any w7).mono ?_; rintro e w8 ⟨rfl, hb8⟩; have N8 := Lib.hid (N7.out.next hb8); clear hb8))
    go_ret
    exact ⟨rfl, hb0to HBW.out N8.out.B⟩
theorem less_law (L : HL) (h : House) (hok : HLOK L h) (hcp : h.ps.length ≤ L.cp) (hcb : h.bs.length ≤ L.cb ∧ L.cb ≤ 9223372036854775807) (part : Int) (w : World) (hH : HouseAt w w.heap.size L h) :
    Calls Try.prog 7 #[L.enc h, .int .i64 part] w fun e w' => e = .returned (.bool true) ∧ Below w.heap.size w w' := by
  by_cases hr : readyB h = true
  · have hv := (ready_far hr).2
    have hV := HOK.ofValid hv
    have hbl := hV.bl
    have hn := valid_1000 hv
    have HR := Lib.hid (fun W (hW : HouseAt W W.heap.size L h) => by have := ready_any L h W hW; rwa [hr] at this)
    by_cases hp : inR part 0 (h.ps.length - 1) = true
    · have hpp := inR_true.1 hp
      obtain ⟨k, rfl⟩ : ∃ k : Nat, part = k := ⟨part.toNat, by omega⟩
      have hk : k < h.ps.length := by omega
      have ho := valid_less hv k
      obtain ⟨p1, p2⟩ := less_plain hv hk
      refine less_yes L h (lessH h k) k hn.2.1 hp (leastS h).1 (fewS h).1 (leastS (lessH h k)).1 (fewS (lessH h k)).1 (buyRet h).1 (buyRet h).2 (buyRet (lessH h k)).1 (buyRet (lessH h k)).2 (isB h) (isB (lessH h k)) ?_ HR
        (Lib.hid fun W hW => without_any L h hn hok hcp k hk W hW) (Lib.hid (both_any L h hv)) (Lib.hid fun W hW => buy_any L h hn ⟨hcb.1, fun e => (hok.b e).1, hcb.2⟩ W hW)
        (Lib.hid fun L2 => both_any L2 (lessH h k) ho) (Lib.hid fun L2 c1 c2 c3 W hW => buy_any L2 (lessH h k) (valid_1000 ho) ⟨c1, c2, c3⟩ W hW) w hH
      by_cases hi : isB h = true
      · have hb0 : buyRet h = (0, 0) := by unfold buyRet; rw [if_neg (by simp [hv]), if_pos (isB_ne.1 hi)]
        obtain ⟨q1, q2, q3⟩ := p1 hi
        obtain ⟨q4, q5, q6, q7⟩ := p2 (by rw [hb0])
        exact .inr (.inr ⟨hi, q1, q2, q3, by rw [hb0], q4, q6, q7⟩)
      · have hi : isB h = false := by simpa using hi
        by_cases he : (buyRet h).2 = 0
        · obtain ⟨q4, q5, q6, q7⟩ := p2 he
          exact .inr (.inl ⟨hi, he, q4, q6, q7⟩)
        · exact .inl ⟨hi, he⟩
    · exact less_no L h part true (.inr ⟨rfl, hn.2.1, by simpa using hp⟩) HR w hH
  · exact less_no L h part false (.inl rfl) (Lib.hid (fun W hW => by have := ready_any L h W hW; rwa [show readyB h = false by simpa using hr] at this)) w hH
end Go.Proofs.Ytgemmmdcpbajoaa
