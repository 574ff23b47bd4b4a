import Derived.Test.YtgemmmdcpbajoaaWD
namespace Go.Proofs.Ytgemmmdcpbajoaa
open Go.RowKit

/-! SaltRoom. -/
theorem wp_region_tailY {P : Program} {id : Nat} {Q : Exit → Act → World → Prop} {a : Act} {w : World} {L : List Oper} (N : Nat) (hL : L = L.take N ++ [L.getD N default]) (hm : P.follows .mixedOrders = true) (hl : lastOK (L.take N).length (L.getD N default) = true) (hb : backB L = true) (hB : Region.lexB .any (L.take N ++ [idle (L.getD N default)]).toArray = true)
    (h : wpQuiet P (L.take N ++ [idle (L.getD N default)]).toArray (fun w' => ∃ x, w' = extB w x) (fun a' => ∀ w', (∃ x, w' = extB w x) → (L.getD N default).wp P a' w' (fun a'' w'' => Q .normal a'' w'') Q) (L.take N) a) : (Code.region id L.toArray true).wp P Q a w :=
  wp_region_tail (C := fun w' => ∃ x, w' = extB w x) _ _ hL hm hl hb hB (extB_of (Below.refl _ w).drew) h
set_option maxRecDepth 100000 in
set_option maxHeartbeats 4000000 in
theorem room_no (L : HL) (h : House) (xb xm xe : Int) (A1 : Option Addr) (n1 c1 : Nat) (A2 : Option Addr) (c2 : Nat) (pack : List Int) (n : Int) (r : Bool) (hc : r = false ∨ (r = true ∧ 40 < pack.length) ∨ (r = true ∧ pack.length ≤ 40 ∧ inR xm 0 99 = false))
    (HR : Hid (∀ W, HouseAt W W.heap.size L h → Calls Try.prog 23 #[L.enc h] W fun e w' => e = .returned (.bool r) ∧ Below W.heap.size W w')) (w : World) (hH : HouseAt w w.heap.size L h) (hI : IntsAt w w.heap.size A2 pack) :
    Calls Try.prog 12 #[L.enc h, .agg #[.int .i64 xb, .int .i64 xm, .int .i64 xe], .agg #[.slice A1 n1 c1, .slice A2 pack.length c2, .int .i64 n]] w fun e w' => e = .returned (.bool true) ∧ Below w.heap.size w w' := by
  obtain ⟨W0, hW0, hM⟩ := RoomM.new (L := L) xb xm xe A1 n1 c1 A2 c2 pack n hH hI
  have HW0 := Lib.hid hW0
  have M0 := Lib.hid hM
  have hc0 := hM.cel
  have HXM := Lib.hid (fun W => within1_any xm 0 99 W)
  clear hW0 hM hH hI
  obtain ⟨Ak, ck, Ap, cp, Ab, cb⟩ := L
  rcases hc with rfl | ⟨rfl, h1⟩ | ⟨rfl, h1, h2⟩
  · skip
    go_enter Try.func12, Try.ntmps12
    go_upto_region 1 with (fail)
    have e := HW0.out
    rw [e]
    clear e
    go_wp2_with (first
      | (go_at_call 23; refine (HR.out W0 M0.out.house).mono ?_; rintro e w1 ⟨rfl, hb1⟩; have M1 := Lib.hid (M0.out.next hb1); clear hb1)
      | (go_at_call 16; refine (works_any w1).mono ?_; rintro e w2 ⟨rfl, hb2⟩; have M2 := Lib.hid (M1.out.next hb2); clear hb2))
    go_ret
    exact ⟨rfl, M2.out.B⟩
  · have hd : decide ((40 : Int) < (pack.length : Int)) = true := decide_eq_true (by omega)
    go_enter Try.func12, Try.ntmps12
    go_upto_region 1 with (fail)
    have e := HW0.out
    rw [e]
    clear e
    go_wp2_with (first
      | (go_at_call 23; refine (HR.out W0 M0.out.house).mono ?_; rintro e w1 ⟨rfl, hb1⟩; have M1 := Lib.hid (M0.out.next hb1); have m1 := M1.out.cel; clear hb1)
      | (go_at_call 16; refine (works_any w1).mono ?_; rintro e w2 ⟨rfl, hb2⟩; have M2 := Lib.hid (M1.out.next hb2); clear hb2))
    go_ret
    exact ⟨rfl, M2.out.B⟩
  · have hd : decide ((40 : Int) < (pack.length : Int)) = false := decide_eq_false (by omega)
    rw [h2] at HXM
    clear h2
    go_enter Try.func12, Try.ntmps12
    go_upto_region 1 with (fail)
    have e := HW0.out
    rw [e]
    clear e
    go_wp2_with (first
      | (go_at_call 23; refine (HR.out W0 M0.out.house).mono ?_; rintro e w1 ⟨rfl, hb1⟩; have M1 := Lib.hid (M0.out.next hb1); have m1 := M1.out.cel; clear hb1)
      | (go_at_call 48; refine (HXM.out w1).mono ?_; rintro e w' ⟨rfl, rfl⟩)
      | (go_at_call 16; refine (works_any w1).mono ?_; rintro e w2 ⟨rfl, hb2⟩; have M2 := Lib.hid (M1.out.next hb2); clear hb2))
    go_ret
    exact ⟨rfl, M2.out.B⟩
set_option maxRecDepth 100000 in
set_option maxHeartbeats 8000000 in
theorem room_yes (L : HL) (h : House) (hv : validH h = true) (hok : HLOK L h) (xb xm xe : Int) (hxm : inR xm 0 99 = true) (A1 : Option Addr) (n1 c1 : Nat) (A2 : Option Addr) (c2 : Nat) (pack : List Int) (hA : A2 = none → c2 = 0 ∧ pack = []) (hl : pack.length ≤ 40) (n : Int)
    (HR : Hid (∀ W, HouseAt W W.heap.size L h → Calls Try.prog 23 #[L.enc h] W fun e w' => e = .returned (.bool true) ∧ Below W.heap.size W w')) (w : World) (hH : HouseAt w w.heap.size L h) (hI : IntsAt w w.heap.size A2 pack) :
    Calls Try.prog 12 #[L.enc h, .agg #[.int .i64 xb, .int .i64 xm, .int .i64 xe], .agg #[.slice A1 n1 c1, .slice A2 pack.length c2, .int .i64 n]] w fun e w' => e = .returned (.bool true) ∧ Below w.heap.size w w' := by
  obtain ⟨W0, hW0, hM⟩ := RoomM.new (L := L) xb xm xe A1 n1 c1 A2 c2 pack n hH hI
  have hV := HOK.ofValid hv
  have hbl := hV.bl
  have HW0 := Lib.hid hW0
  have M0 := Lib.hid hM
  have hc0 := hM.cel
  have hxm' := inR_true.1 hxm
  have HXM := Lib.hid (fun W => within1_any xm 0 99 W)
  rw [hxm] at HXM
  have HN := Lib.hid (valid_1000 hv)
  have HB := Lib.hid (fun W => rIsBarrel_any L h xb W HN.out.2.2)
  have HOK' := Lib.hid hok
  have HV := Lib.hid hv
  have HVV := Lib.hid hV
  have HAA := Lib.hid hA
  have hd40 : decide ((40 : Int) < (pack.length : Int)) = false := decide_eq_false (by omega)
  have hbiglen := big_len h xb xm
  have HBL := Lib.hid hbiglen
  have HROOM := Lib.hid (roomier_both (h := h) (xb := xb) (more := xm) (ex := xe) hxm'.1)
  clear hW0 hM hH hI hV hok hv hA hxm hbiglen
  obtain ⟨Ak, ck, Ap, cp, Ab, cb⟩ := L
  go_enter Try.func12, Try.ntmps12
  go_upto_region 1 with (fail)
  have e := HW0.out
  rw [e]
  clear e
  go_upto_if 49 with (first
    | (go_at_call 23; refine (HR.out W0 M0.out.house).mono ?_; rintro e w1 ⟨rfl, hb1⟩; have M1 := Lib.hid (M0.out.next hb1); have m1 := M1.out.cel; clear hb1)
    | (go_at_call 48; refine (HXM.out w1).mono ?_; rintro e w' ⟨rfl, rfl⟩)
    | (go_at_call 17; refine (copy_any _ h HN.out HOK'.out w1 M1.out.house).mono ?_; rintro e w2 ⟨⟨⟨Bk, dk, Bp, dp, Bb, db⟩, n1', n2', rfl, hC⟩, hb2⟩; have hM2 := M1.out.next hb2; have hO2 := TurnO.new hC (s := w.heap.size + 3) M1.out.lt; have M2 := Lib.hid (hM2.next ((Below.refl _ w2).alloc (Nat.le_refl _) (.cells #[.slice Bk h.ks.length dk, .int .i64 h.fl, .slice Bp h.ps.length dp, .slice Bb h.bs.length db] 26))); have O2 := Lib.hid hO2; have m2 := M2.out.cel; have hs2 : w.heap.size + 1 + 1 < w2.heap.size := hM2.lt; clear hC hb2 hM2 hO2)
    | (go_at_call 51; refine (HB.out _).mono ?_; rintro e w3 ⟨rfl, hb3⟩; have M3 := Lib.hid (M2.out.next hb3); have O3 := Lib.hid (O2.out.next hb3); have m3 := M3.out.cel; clear hb3))
  clear hc0 m1 m2
  obtain ⟨⟨g0, g1, g2, g3⟩, ⟨x0, x1, x2⟩, y0, y1, y2⟩ := m3
  go_cut [] (fun wx => Hid (RoomM w wx ⟨Ak, ck, Ap, cp, Ab, cb⟩ h xb xm xe A1 n1 c1 A2 c2 pack n) ∧ Hid (TurnO wx (w.heap.size + 3) w2.heap.size ⟨Bk, dk, Bp, dp, Bb, db⟩ (bigH h xb xm)))
  case first =>
    as_aux_lemma =>
    cases hB : inR xb 0 (h.bs.length - 1)
    · have HBH := Lib.hid (show bigH h xb xm = h by unfold bigH; rw [if_neg (by simp [hB])])
      clear hB
      go_wp2_with (fail)
      go_meet
      case rel => exact ⟨M3, Lib.hid (by rw [HBH.out]; exact O3.out)⟩
    · have hB' := inR_true.1 hB
      obtain ⟨i, rfl⟩ : ∃ i : Nat, xb = i := ⟨xb.toNat, by omega⟩
      have hi : i < h.bs.length := by omega
      obtain ⟨v, hvv⟩ : ∃ v, h.bs[i]? = some v := ⟨_, List.getElem?_eq_getElem hi⟩
      have hvb := HVV.out.b i v hvv
      have HBH := Lib.hid (show bigH h (i : Int) xm = { h with bs := h.bs.set i (v + xm) } by
        unfold bigH
        rw [if_pos hB, Int.toNat_natCast, List.getD_eq_getElem?_getD, hvv]; rfl)
      obtain ⟨gB, eB, hgs, hgb, hfz, ⟨y, hy⟩, hput⟩ := O3.out.putB hi
      have hcell := O3.out.house.b.at_ hvv
      obtain ⟨b9, o9, e9, _, c9⟩ := hcell
      simp only at eB e9
      rw [eB] at e9
      cases e9
      rw [Nat.zero_add] at c9
      obtain ⟨z0, z1, z2, z3⟩ := O3.out.z.cells
      simp only at z3
      rw [eB] at z3
      have hwr : IntKind.i64.wrap (v + xm) = v + xm := IntWalk.i64_in _ (by omega)
      have EB := Lib.hid eB
      have q0 := extB_cell z3
      have q1 := extB_cell x0
      have q2 := extB_cell x1
      have q3 := extB_cell c9
      clear hB hput eB hvv hy z0 z1 z2 hfz
      go_upto_region 5 with (fail)
      refine wp_region_tailY 10 (by rfl) (by kernel_rfl) (by kernel_rfl) (by kernel_rfl) (by kernel_rfl) ?_
      simp only [List.take_succ_cons, List.take_zero, List.getD_cons_succ, List.getD_cons_zero, List.cons_append, List.nil_append, idle]
      repeat (go_big_quiet_step (fail))
      refine wpQuiet_nil ?_
      rintro _ ⟨x9, rfl⟩
      have hb8 := extB_below w3 x9
      have M8 := Lib.hid (M3.out.next hb8)
      have O8 := Lib.hid (O3.out.next hb8)
      clear q0 q1 q2 q3
      obtain ⟨W8, hW8⟩ : ∃ W8, extB w3 x9 = W8 := ⟨_, rfl⟩
      rw [hW8] at M8 O8 ⊢
      clear hb8 hW8
      obtain ⟨g', eB', _, _, hfz, ⟨y, hy⟩, hput⟩ := O8.out.putB hi
      rw [EB.out] at eB'
      cases eB'
      have PUT := Lib.hid (hput (v + xm))
      clear hput
      go_simp
      go_wp2_with (fail)
      go_meet
      case rel => exact ⟨Lib.hid (M8.out.set (o := i) (u := .int .i64 (v + xm)) hgs), Lib.hid (by rw [HBH.out]; exact PUT.out)⟩
  case rest =>
    as_aux_lemma =>
    clear g0 g1 g2 g3 x0 x1 x2 y0 y1 y2 M3 O3
    obtain ⟨MA, OA⟩ := hcut
    obtain ⟨⟨g0, g1, g2, g3⟩, ⟨x0, x1, x2⟩, y0, y1, y2⟩ := MA.out.cel
    have hgo : w.heap.size + 3 ≤ w2.heap.size := by omega
    have HN2 := Lib.hid (show (bigH h xb xm).ks.length ≤ 1000 ∧ (bigH h xb xm).ps.length ≤ 1000 ∧ (bigH h xb xm).bs.length ≤ 1000 by
      obtain ⟨e1, e2, e3⟩ := HBL.out
      rw [e1, e2, e3]; exact HN.out)
    go_upto_if 62 with (fail)
    go_cut [] (fun wx => ∃ Lo, Hid (RoomM w wx ⟨Ak, ck, Ap, cp, Ab, cb⟩ h xb xm xe A1 n1 c1 A2 c2 pack n) ∧ Hid (TurnO wx (w.heap.size + 3) w2.heap.size Lo (extraH (bigH h xb xm) xe)))
    case first =>
      as_aux_lemma =>
      obtain ⟨z0, z1, z2, z3⟩ := OA.out.z.cells
      have zf := zbox_frozen OA.out.z
      by_cases hx : 0 ≤ xe
      · have HE := Lib.hid (show extraH (bigH h xb xm) xe = moreH (bigH h xb xm) xe by unfold extraH; rw [if_pos hx])
        go_wp2_with (go_at_call 49; (with_reducible refine (more_any ⟨Bk, dk, Bp, dp, Bb, db⟩ (bigH h xb xm) HN2.out OA.out.ok xe wc OA.out.house).mono ?_); rintro e w4 ⟨⟨⟨Ck, ek, Cp, ep, Cb, eb⟩, n1', n2', rfl, hC⟩, hb⟩; have M4 := Lib.hid (MA.out.next hb); have O4 := Lib.hid (OA.out.next hb); have C4 := Lib.hid hC; have S4 := Lib.hid hb.size; have zf4 := zbox_frozen O4.out.z; obtain ⟨z0', z1', z2', z3'⟩ := O4.out.z.cells; clear hb hC)
        go_meet
        have kM := M4.out.put4 hgo (.slice Ck (moreH (bigH h xb xm) xe).ks.length ek) (.int .i64 (moreH (bigH h xb xm) xe).fl) (.slice Cp (moreH (bigH h xb xm) xe).ps.length ep) (.slice Cb (moreH (bigH h xb xm) xe).bs.length eb)
        have hs4 : w.heap.size + 3 ≤ wc.heap.size := by have := MA.out.lt; omega
        have kO := O4.out.put4 C4.out hs4
        simp only at kO
        case rel => exact ⟨⟨Ck, ek, Cp, ep, Cb, eb⟩, Lib.hid kM, Lib.hid (by rw [HE.out]; exact kO)⟩
      · have HE := Lib.hid (show extraH (bigH h xb xm) xe = bigH h xb xm by unfold extraH; rw [if_neg hx])
        go_wp2_with (fail)
        go_meet
        case rel => exact ⟨⟨Bk, dk, Bp, dp, Bb, db⟩, MA, Lib.hid (by rw [HE.out]; exact OA.out)⟩
    case rest =>
      as_aux_lemma =>
      clear g0 g1 g2 g3 x0 x1 x2 y0 y1 y2 MA OA
      obtain ⟨⟨Ck, ek, Cp, ep, Cb, eb⟩, MA, OA⟩ := hcut
      obtain ⟨⟨g0, g1, g2, g3⟩, ⟨x0, x1, x2⟩, y0, y1, y2⟩ := MA.out.cel
      obtain ⟨ho, hho⟩ : ∃ ho, ho = extraH (bigH h xb xm) xe := ⟨_, rfl⟩
      rw [← hho] at OA HROOM
      clear hho
      obtain ⟨z0, z1, z2, z3⟩ := OA.out.z.cells
      have H23 := Lib.hid (ready_any ⟨Ck, ek, Cp, ep, Cb, eb⟩ ho wc OA.out.house)
      cases hr2 : readyB ho
      · rw [hr2] at H23
        clear hr2
        go_wp2_with (first
          | (go_at_call 23; refine (H23.out).mono ?_; rintro e w5 ⟨rfl, hb⟩; have M5 := Lib.hid (MA.out.next hb); clear hb)
          | (go_at_call 16; refine (works_any w5).mono ?_; rintro e w6 ⟨rfl, hb⟩; have M6 := Lib.hid (M5.out.next hb); clear hb))
        go_ret
        exact ⟨rfl, M6.out.B⟩
      · rw [hr2] at H23
        have hvo := (ready_far hr2).2
        clear hr2
        obtain ⟨q1, q2, q3⟩ := room_plain HV.out hvo HROOM.out
        obtain ⟨gd, hgd⟩ : ∃ b, b = goodB h pack := ⟨_, rfl⟩
        obtain ⟨gd2, hgd2⟩ : ∃ b, b = goodB ho pack := ⟨_, rfl⟩
        have hgg : gd = false ∨ (gd = true ∧ gd2 = true) := by
          cases e : gd
          · exact .inl rfl
          · exact .inr ⟨rfl, by rw [hgd2]; exact good_room HV.out hvo HROOM.out (hgd.symm.trans e)⟩
        obtain ⟨is, his⟩ : ∃ b, b = isB h := ⟨_, rfl⟩
        obtain ⟨so, hso⟩ : ∃ b, b = isB ho := ⟨_, rfl⟩
        obtain ⟨m, hm⟩ : ∃ b, b = (leastS h).1 := ⟨_, rfl⟩
        obtain ⟨m2, hm2⟩ : ∃ b, b = (leastS ho).1 := ⟨_, rfl⟩
        obtain ⟨f, hf⟩ : ∃ b, b = (fewS h).1 := ⟨_, rfl⟩
        obtain ⟨f2, hf2⟩ : ∃ b, b = (fewS ho).1 := ⟨_, rfl⟩
        have H44 := Lib.hid (both_any ⟨Ak, ck, Ap, cp, Ab, cb⟩ h HV.out)
        have H44o := Lib.hid (both_any ⟨Ck, ek, Cp, ep, Cb, eb⟩ ho hvo)
        have HNo := Lib.hid (valid_1000 hvo)
        have H31 := Lib.hid (fun A c W hW hI => Good_any ⟨Ak, ck, Ap, cp, Ab, cb⟩ h HN.out pack (show pack.length ≤ 1000 by omega) A c W hW hI)
        have H31o := Lib.hid (fun A c W hW hI => Good_any ⟨Ck, ek, Cp, ep, Cb, eb⟩ ho HNo.out pack (show pack.length ≤ 1000 by omega) A c W hW hI)
        have H52 := Lib.hid (fun W hW hI => isPacking_any ⟨Ak, ck, Ap, cp, Ab, cb⟩ h HVV.out pack (show pack.length ≤ 1000 by omega) A2 c2 W hW hI)
        rw [show goodRet h pack = (gd, 0) by unfold goodRet; rw [if_neg (by simp [HV.out]), ← hgd]] at H31
        rw [show goodRet ho pack = (gd2, 0) by unfold goodRet; rw [if_neg (by simp [hvo]), ← hgd2]] at H31o
        rw [← hgd] at H52
        rw [← his, ← hm, ← hf] at H44
        rw [← hso, ← hm2, ← hf2] at H44o
        rw [← his, ← hso, ← hm, ← hm2, ← hf, ← hf2] at q1
        have hii : is = false ∨ (is = true ∧ so = true ∧ decide (m < m2) = false ∧ decide (f < f2) = false) := by
          cases e : is
          · exact .inl rfl
          · obtain ⟨r1, r2, r3⟩ := q1 e
            exact .inr ⟨rfl, r1, decide_eq_false (by omega), decide_eq_false (by omega)⟩
        have Q2 := Lib.hid q2
        have Q3 := Lib.hid q3
        have HVO := Lib.hid hvo
        have HL1000 := Lib.hid (show pack.length ≤ 1000 by omega)
        clear q1 q2 q3 hgd hgd2 his hso hm hm2 hf hf2 hvo
        go_upto_region 12 with (first
          | (go_at_call 23; refine (H23.out).mono ?_; rintro e w5 ⟨rfl, hb⟩; have M5 := Lib.hid (MA.out.next hb); have O5 := Lib.hid (OA.out.next hb); have c5 := M5.out.cel; clear hb)
          | (go_at_call 44; (with_reducible refine (H44o.out w6 O6.out.house).mono ?_); rintro e w7 ⟨rfl, hb⟩; have M7 := Lib.hid (M6.out.next hb); have O7 := Lib.hid (O6.out.next hb); clear hb)
          | (go_at_call 44; (with_reducible refine (H44.out w5 M5.out.house).mono ?_); rintro e w6 ⟨rfl, hb⟩; have M6 := Lib.hid (M5.out.next hb); have O6 := Lib.hid (O5.out.next hb); have z6 := O6.out.z.cells; clear hb))
        clear g0 g1 g2 g3 x0 x1 x2 y0 y1 y2 z0 z1 z2 z3 c5 z6
        obtain ⟨⟨g0, g1, g2, g3⟩, ⟨x0, x1, x2⟩, y0, y1, y2⟩ := M7.out.cel
        obtain ⟨z0, z1, z2, z3⟩ := O7.out.z.cells
        go_region_held3 (fun w' => w'.cell? ⟨w.heap.size, 0, none⟩ = some (.slice Ak h.ks.length ck) ∧ w'.cell? ⟨w.heap.size, 1, none⟩ = some (.int .i64 h.fl) ∧ w'.cell? ⟨w.heap.size, 2, none⟩ = some (.slice Ap h.ps.length cp) ∧ w'.cell? ⟨w.heap.size, 3, none⟩ = some (.slice Ab h.bs.length cb) ∧ w'.cell? ⟨w.heap.size + 1 + 1, 1, none⟩ = some (.slice A2 pack.length c2)) (first | go_keep)
          (first
            | (go_at_call 26; refine (copied_any pack HL1000.out A2 c2 HAA.out _ (by first | exact M7.out.ints | exact ints_later M7.out.ints (drew_below _))).mono ?_; rintro e w8 ⟨⟨v8, rfl, hI5⟩, hb5⟩; obtain ⟨A8, c8, rfl, -, -, hI5'⟩ := hI5.lay; have hk5 : Below w7.heap.size w7 w8 := (by first | exact hb5 | exact hb0to (drew_below w7) hb5); have M8 := Lib.hid (M7.out.next hk5); have O8 := Lib.hid (O7.out.next hk5); have I8 := Lib.hid hI5'.at_; obtain ⟨⟨r0, r1, r2, r3⟩, ⟨s0, s1, s2⟩, t0, t1, t2⟩ := M8.out.cel; clear hb5 hI5 hI5' hk5)
            | (go_at_call 31; refine (H31.out A8 c8 w8 M8.out.house I8.out).mono ?_; rintro e w9 ⟨rfl, hb6⟩; have M9 := Lib.hid (M8.out.next hb6); have O9 := Lib.hid (O8.out.next hb6); obtain ⟨⟨r0, r1, r2, r3⟩, ⟨s0, s1, s2⟩, t0, t1, t2⟩ := M9.out.cel; obtain ⟨z0', z1', z2', z3'⟩ := O9.out.z.cells; clear hb6))
        go_upto_region 13 with (fail)
        go_region_held3 (fun w' => w'.cell? ⟨w2.heap.size, 0, none⟩ = some (.slice Ck ho.ks.length ek) ∧ w'.cell? ⟨w2.heap.size, 1, none⟩ = some (.int .i64 ho.fl) ∧ w'.cell? ⟨w2.heap.size, 2, none⟩ = some (.slice Cp ho.ps.length ep) ∧ w'.cell? ⟨w2.heap.size, 3, none⟩ = some (.slice Cb ho.bs.length eb) ∧ w'.cell? ⟨w.heap.size + 1 + 1, 1, none⟩ = some (.slice A2 pack.length c2)) (first | go_keep)
          (first
            | (go_at_call 26; refine (copied_any pack HL1000.out A2 c2 HAA.out _ (by first | exact M9.out.ints | exact ints_later M9.out.ints (drew_below _))).mono ?_; rintro e w10 ⟨⟨v10, rfl, hI5⟩, hb5⟩; obtain ⟨A10, c10, rfl, -, -, hI5'⟩ := hI5.lay; have hk5 : Below w9.heap.size w9 w10 := (by first | exact hb5 | exact hb0to (drew_below w9) hb5); have M10 := Lib.hid (M9.out.next hk5); have O10 := Lib.hid (O9.out.next hk5); have I10 := Lib.hid hI5'.at_; obtain ⟨⟨r0, r1, r2, r3⟩, ⟨s0, s1, s2⟩, t0, t1, t2⟩ := M10.out.cel; obtain ⟨z0'', z1'', z2'', z3''⟩ := O10.out.z.cells; clear hb5 hI5 hI5' hk5)
            | (go_at_call 31; refine (H31o.out A10 c10 w10 O10.out.house I10.out).mono ?_; rintro e w11 ⟨rfl, hb6⟩; have M11 := Lib.hid (M10.out.next hb6); have O11 := Lib.hid (O10.out.next hb6); obtain ⟨⟨r0, r1, r2, r3⟩, ⟨s0, s1, s2⟩, t0, t1, t2⟩ := M11.out.cel; obtain ⟨z0'', z1'', z2'', z3''⟩ := O11.out.z.cells; clear hb6))
        go_upto_region 14 with (fail)
        go_cut [144] (fun s144 wx => s144 = .bool false ∧ Hid (RoomM w wx ⟨Ak, ck, Ap, cp, Ab, cb⟩ h xb xm xe A1 n1 c1 A2 c2 pack n) ∧ Hid (TurnO wx (w.heap.size + 3) w2.heap.size ⟨Ck, ek, Cp, ep, Cb, eb⟩ ho))
        case first =>
          as_aux_lemma =>
          rcases hii with rfl | ⟨rfl, rfl, d1, d2⟩
          all_goals
            rcases hgg with rfl | ⟨rfl, rfl⟩
          all_goals
            go_wp2_with (go_at_call 52; refine (H52.out w11 M11.out.house M11.out.ints).mono ?_; rintro e w12 ⟨rfl, hb⟩; have M12 := Lib.hid (M11.out.next hb); have O12 := Lib.hid (O11.out.next hb); clear hb)
            go_meet
            exact ⟨rfl, M12, O12⟩
        case rest =>
          as_aux_lemma =>
          clear hii hgg
          obtain ⟨rfl, MB, OB⟩ := hcut
          obtain ⟨⟨g0, g1, g2, g3⟩, ⟨x0, x1, x2⟩, y0, y1, y2⟩ := MB.out.cel
          obtain ⟨z0, z1, z2, z3⟩ := OB.out.z.cells
          have HD := Lib.hid (fun W => rIsDay_any n W)
          have HS := Lib.hid (fun W => rIsStock_any n W)
          go_upto_if 147 with (go_at_call 50; refine (HD.out _).mono ?_; rintro e w13 ⟨rfl, rfl⟩)
          go_cut [] (fun wx => Hid (RoomM w wx ⟨Ak, ck, Ap, cp, Ab, cb⟩ h xb xm xe A1 n1 c1 A2 c2 pack n) ∧ Hid (TurnO wx (w.heap.size + 3) w2.heap.size ⟨Ck, ek, Cp, ep, Cb, eb⟩ ho))
          case first =>
            as_aux_lemma =>
            cases hday : inR n 0 20
            · go_wp2_with (fail)
              go_meet
              exact ⟨MB, OB⟩
            · obtain ⟨va, hva⟩ : ∃ v, v = (earlyS h n).1 := ⟨_, rfl⟩
              obtain ⟨vb, hvb⟩ : ∃ v, v = (earlyS ho n).1 := ⟨_, rfl⟩
              obtain ⟨e1, he1⟩ : ∃ v, v = (earlyS h n).2 := ⟨_, rfl⟩
              obtain ⟨e2, he2⟩ : ∃ v, v = (earlyS ho n).2 := ⟨_, rfl⟩
              have H45 := Lib.hid (early_any2 n ⟨Ak, ck, Ap, cp, Ab, cb⟩ h HN.out)
              have H45o := Lib.hid (early_any2 n ⟨Ck, ek, Cp, ep, Cb, eb⟩ ho HNo.out)
              have hq := Q2.out n
              rw [← hva, ← he1] at H45 hq
              rw [← hvb, ← he2] at H45o hq
              have hq2 : (e1 == 0) = false ∨ (e1 = 0 ∧ e2 = 0 ∧ decide (vb < va) = false) := by
                by_cases hz : e1 = 0
                · obtain ⟨r1, r2⟩ := hq hz
                  exact .inr ⟨hz, r1, decide_eq_false (by omega)⟩
                · exact .inl (beq_eq_false_iff_ne.2 hz)
              clear hva hvb he1 he2 hq hday
              rcases hq2 with hz | ⟨rfl, rfl, hz⟩
              all_goals
                go_wp2_with (first
                  | (go_at_call 45; (with_reducible refine (H45o.out w14 O14.out.house).mono ?_); rintro e w15 ⟨rfl, hb⟩; have M15 := Lib.hid (M14.out.next hb); have O15 := Lib.hid (O14.out.next hb); clear hb)
                  | (go_at_call 45; (with_reducible refine (H45.out wc MB.out.house).mono ?_); rintro e w14 ⟨rfl, hb⟩; have M14 := Lib.hid (MB.out.next hb); have O14 := Lib.hid (OB.out.next hb); have c14 := M14.out.cel; have z14 := O14.out.z.cells; clear hb))
                go_meet
                exact ⟨M15, O15⟩
          case rest =>
            as_aux_lemma =>
            clear g0 g1 g2 g3 x0 x1 x2 y0 y1 y2 z0 z1 z2 z3
            obtain ⟨MC, OC⟩ := hcut
            obtain ⟨⟨g0, g1, g2, g3⟩, ⟨x0, x1, x2⟩, y0, y1, y2⟩ := MC.out.cel
            obtain ⟨z0, z1, z2, z3⟩ := OC.out.z.cells
            go_upto_if 175 with (go_at_call 46; refine (HS.out _).mono ?_; rintro e w16 ⟨rfl, rfl⟩)
            go_cut [] (fun wx => Hid (Below w.heap.size w wx))
            case first =>
              as_aux_lemma =>
              cases hst : inR n 0 999
              · go_wp2_with (fail)
                go_meet
                exact Lib.hid MC.out.B
              · obtain ⟨r1, r2, r3⟩ := Q3.out n hst
                have H18 := Lib.hid (stock_any2 ⟨Ak, ck, Ap, cp, Ab, cb⟩ h HN.out n)
                have H18o := Lib.hid (stock_any2 ⟨Ck, ek, Cp, ep, Cb, eb⟩ ho HNo.out n)
                obtain ⟨va, hva⟩ : ∃ v, v = (rStockS h n).1 := ⟨_, rfl⟩
                obtain ⟨vb, hvb⟩ : ∃ v, v = (rStockS ho n).1 := ⟨_, rfl⟩
                rw [← hva, r1] at H18
                rw [← hvb, r2] at H18o
                rw [← hva, ← hvb] at r3
                have hd := decide_eq_false (show ¬ vb < va by omega)
                clear hva hvb r1 r2 r3 hst
                go_wp2_with (first
                  | (go_at_call 18; (with_reducible refine (H18o.out w17 O17.out.house).mono ?_); rintro e w18 ⟨rfl, hb⟩; have M18 := Lib.hid (M17.out.next hb); clear hb)
                  | (go_at_call 18; (with_reducible refine (H18.out wc MC.out.house).mono ?_); rintro e w17 ⟨rfl, hb⟩; have M17 := Lib.hid (MC.out.next hb); have O17 := Lib.hid (OC.out.next hb); have c17 := M17.out.cel; have z17 := O17.out.z.cells; clear hb))
                go_meet
                exact Lib.hid M18.out.B
            case rest =>
              as_aux_lemma =>
              go_wp2_with (go_at_call 16; refine (works_any wc).mono ?_; rintro e w19 ⟨rfl, hb⟩; have B19 := Lib.hid (hb0to hcut.out hb); clear hb)
              go_ret
              exact ⟨rfl, B19.out⟩
theorem room_law (L : HL) (h : House) (hok : HLOK L h) (xb xm xe : Int) (A1 : Option Addr) (n1 c1 : Nat) (A2 : Option Addr) (c2 : Nat) (pack : List Int) (hA : A2 = none → c2 = 0 ∧ pack = []) (n : Int) (w : World) (hH : HouseAt w w.heap.size L h) (hI : IntsAt w w.heap.size A2 pack) :
    Calls Try.prog 12 #[L.enc h, .agg #[.int .i64 xb, .int .i64 xm, .int .i64 xe], .agg #[.slice A1 n1 c1, .slice A2 pack.length c2, .int .i64 n]] w fun e w' => e = .returned (.bool true) ∧ Below w.heap.size w w' := by
  by_cases hr : readyB h = true
  · have hv := (ready_far hr).2
    have HR := Lib.hid (fun W (hW : HouseAt W W.heap.size L h) => by have := ready_any L h W hW; rwa [hr] at this)
    by_cases hl40 : pack.length ≤ 40
    · by_cases hm : inR xm 0 99 = true
      · exact room_yes L h hv hok xb xm xe hm A1 n1 c1 A2 c2 pack hA hl40 n HR w hH hI
      · exact room_no L h xb xm xe A1 n1 c1 A2 c2 pack n true (.inr (.inr ⟨rfl, hl40, by simpa using hm⟩)) HR w hH hI
    · exact room_no L h xb xm xe A1 n1 c1 A2 c2 pack n true (.inr (.inl ⟨rfl, by omega⟩)) HR w hH hI
  · exact room_no L h xb xm xe A1 n1 c1 A2 c2 pack n false (.inl rfl) (Lib.hid (fun W hW => by have := ready_any L h W hW; rwa [show readyB h = false by simpa using hr] at this)) w hH hI
end Go.Proofs.Ytgemmmdcpbajoaa
