import Derived.Test.YtgjpllmmpclgaaaM5
import Derived.Test.YtgjpllmmpclgaaaG3
namespace Go.Proofs.Ytgjpllmmpclgaaa
open Go.RowKit

/-! LiftsHeld. -/
/-- What LiftsHeld keeps. -/
structure HIn (W : World) (b : Nat) (L : SL) (s : Sea) (A : Option Addr) (c : List Int) (n : Int) (A2 : Option Addr) (c2 : Nat) (p : List Int) : Prop where
  S : SIn W b L s A c
  y : W.heap[b + 1]? = some (.cells #[.int .i64 n, .slice A2 p.length c2] 43 (0, 0))
  j : IntsAt W W.heap.size A2 p
theorem HIn.next {W W' : World} {b : Nat} {L : SL} {s : Sea} {A : Option Addr} {c : List Int} {n : Int} {A2 : Option Addr} {c2 : Nat} {p : List Int} (h : HIn W b L s A c n A2 c2 p) (hb : Below W.heap.size W W') : HIn W' b L s A c n A2 c2 p :=
  ⟨h.S.next hb, (hb.block _ (heap_lt h.y)).trans h.y, ints_later h.j hb⟩
theorem HIn.c {W : World} {b : Nat} {L : SL} {s : Sea} {A : Option Addr} {c : List Int} {n : Int} {A2 : Option Addr} {c2 : Nat} {p : List Int} (h : HIn W b L s A c n A2 c2 p) :
    W.cell? ⟨b, 0, none⟩ = some (.int .i64 s.wl) ∧ W.cell? ⟨b, 1, none⟩ = some (.int .i64 s.wh) ∧ W.cell? ⟨b, 2, none⟩ = some (.slice L.Ap s.ps.length L.cp) ∧ W.cell? ⟨b, 3, none⟩ = some (.slice L.Ab s.bs.length L.cb) ∧ W.cell? ⟨b + 1, 0, none⟩ = some (.int .i64 n) ∧ W.cell? ⟨b + 1, 1, none⟩ = some (.slice A2 p.length c2) := by
  obtain ⟨h0, h1, h2, h3⟩ := h.S.x.cells
  exact ⟨h0, h1, h2, h3, cell_of_heap (o := 0) h.y rfl, cell_of_heap (o := 1) h.y rfl⟩
set_option maxRecDepth 100000 in
set_option maxHeartbeats 4000000 in
theorem held_law (L : SL) (s : Sea) (A : Option Addr) (cv : Nat) (c : List Int) (hA : A = none → cv = 0 ∧ c = []) (hcv : c.length ≤ cv) (n : Int) (A2 : Option Addr) (c2 : Nat) (p : List Int) (w : World) (hH : SeaAt w w.heap.size L s) (hI : IntsAt w w.heap.size A c) (hJ : IntsAt w w.heap.size A2 p) : Calls Try.prog 4 #[L.enc s, .slice A c.length cv, .agg #[.int .i64 n, .slice A2 p.length c2]] w fun e w' => e = .returned (.bool true) ∧ Below w.heap.size w w' := by
  have hbw := hb0to (al_below w (.cells #[.int .i64 s.wl, .int .i64 s.wh, .slice L.Ap s.ps.length L.cp, .slice L.Ab s.bs.length L.cb] 27)) (al_below _ (.cells #[.int .i64 n, .slice A2 p.length c2] 43))
  have hx0 := (SBox.new w L s).of (Below.heap_alloc _ (.cells #[.int .i64 n, .slice A2 p.length c2] 43) _ (by simp))
  have hy0 := heap_new2 w (.cells #[.int .i64 s.wl, .int .i64 s.wh, .slice L.Ap s.ps.length L.cp, .slice L.Ab s.bs.length L.cb] 27) (.cells #[.int .i64 n, .slice A2 p.length c2] 43)
  obtain ⟨W0, hW0⟩ : ∃ W0, (w.alloc (.cells #[.int .i64 s.wl, .int .i64 s.wh, .slice L.Ap s.ps.length L.cp, .slice L.Ab s.bs.length L.cb] 27)).alloc (.cells #[.int .i64 n, .slice A2 p.length c2] 43) = W0 := ⟨_, rfl⟩
  rw [hW0] at hbw hx0 hy0
  have HM := Lib.hid (HIn.mk (SIn.mk (hH.below hbw) hx0 (ints_later hI hbw)) hy0 (ints_later hJ hbw))
  have HBW := Lib.hid hbw
  have HW0 := Lib.hid hW0
  have HA := Lib.hid hA
  obtain ⟨c0, c1, c2', c3, c4, c5⟩ := HM.out.c
  have HR := Lib.hid (fun W hW => ready_any L s W hW)
  clear hbw hx0 hy0 hW0 hH hI hJ hA
  cases hv : validS s
  · rw [hv] at HR
    clear hv
    as_aux_lemma =>
    obtain ⟨Ap, cp, Ab, cb⟩ := L
    go_enter Try.func4, Try.ntmps4
    go_upto_region 1 with (fail)
    have e := HW0.out
    rw [e]
    clear e
    go_wp2_with (first
      | (go_at_call 16; refine (HR.out W0 HM.out.S.H).mono ?_; rintro e w1 ⟨rfl, hb1⟩; have M1 := Lib.hid (HM.out.next hb1); obtain ⟨r0, r1, r2, r3, r4, r5⟩ := M1.out.c; have B1 := Lib.hid hb1; clear hb1)
      | (go_at_call 17; refine (works_any _).mono ?_; rintro e w9 ⟨rfl, hb9⟩; have B9 := Lib.hid (hb0to B1.out hb9); clear hb9))
    go_ret
    exact ⟨rfl, hb0to HBW.out B9.out⟩
  · rw [hv] at HR
    by_cases h40 : 40 < c.length
    · have hd : decide ((40 : Int) < (c.length : Int)) = true := decide_eq_true (by omega)
      clear hv h40
      as_aux_lemma =>
      obtain ⟨Ap, cp, Ab, cb⟩ := L
      go_enter Try.func4, Try.ntmps4
      go_upto_region 1 with (fail)
      have e := HW0.out
      rw [e]
      clear e
      go_wp2_with (first
        | (go_at_call 16; refine (HR.out W0 HM.out.S.H).mono ?_; rintro e w1 ⟨rfl, hb1⟩; have M1 := Lib.hid (HM.out.next hb1); obtain ⟨r0, r1, r2, r3, r4, r5⟩ := M1.out.c; have B1 := Lib.hid hb1; clear hb1)
        | (go_at_call 17; refine (works_any _).mono ?_; rintro e w9 ⟨rfl, hb9⟩; have B9 := Lib.hid (hb0to B1.out hb9); clear hb9))
      go_ret
      exact ⟨rfl, hb0to HBW.out B9.out⟩
    · have hd : decide ((40 : Int) < (c.length : Int)) = false := decide_eq_false (by omega)
      have hl4 : c.length ≤ 1000 := by omega
      have hS := SOK.ofValid hv
      have H25 := Lib.hid (fun W hW hI => rIsCrew_any L s hS c A cv hl4 hcv W hW hI)
      cases hc : crewB s c
      · rw [hc] at H25
        clear hv h40 hc hS
        as_aux_lemma =>
        obtain ⟨Ap, cp, Ab, cb⟩ := L
        go_enter Try.func4, Try.ntmps4
        go_upto_region 1 with (fail)
        have e := HW0.out
        rw [e]
        clear e
        go_wp2_with (first
          | (go_at_call 16; refine (HR.out W0 HM.out.S.H).mono ?_; rintro e w1 ⟨rfl, hb1⟩; have M1 := Lib.hid (HM.out.next hb1); obtain ⟨r0, r1, r2, r3, r4, r5⟩ := M1.out.c; have B1 := Lib.hid hb1; clear hb1)
          | (go_at_call 25; refine (H25.out w1 M1.out.S.H M1.out.S.i).mono ?_; rintro e w2 ⟨rfl, hb2⟩; have M2 := Lib.hid (M1.out.next hb2); obtain ⟨s0, s1, s2, s3, s4, s5⟩ := M2.out.c; have B2 := Lib.hid (hb0to B1.out hb2); clear hb2)
          | (go_at_call 17; refine (works_any _).mono ?_; rintro e w9 ⟨rfl, hb9⟩; have B9 := Lib.hid (hb0to B2.out hb9); clear hb9))
        go_ret
        exact ⟨rfl, hb0to HBW.out B9.out⟩
      · rw [hc] at H25
        have hcr := crewB_iff.1 hc
        have H26 := Lib.hid (fun A2 c2 W hW hI => Safe_any L s c A2 c2 hl4 W hW hI)
        rw [safe_ret hv hc] at H26
        have H19 := Lib.hid (fun W hW => needs_any L s hv W hW)
        have H27 := Lib.hid (fun W hW hI => canW_any L s hv c A cv HA.out hl4 W hW hI)
        rw [canW_crew hc] at H27
        have hnl := needsL_len s
        have hpl := hS.pl
        have hbl := hS.bl
        have H29 := Lib.hid (fun B cw W hW hI hJ => rFits_any L s hS c (needsL s) A B cv cw hl4 (by have := hcr.1; omega) (by omega) hcr.2.1 W hW hI hJ)
        rw [fits_safe hcr.1, hnl] at H29
        have hk := safeN_cases s c
        have hsl := safe_lift hS hcr
        have hlb := lift_bd hS hcr
        have HSO := Lib.hid (fun hp h0 h1 h => safe_over hS (p := p) hcr hp (n := n) h0 h1 h)
        have HNO := Lib.hid (fun hp h0 h => never_over hS (p := p) hcr hp (n := n) h0 h)
        have HCR := Lib.hid hcr
        have HS := Lib.hid hS
        have h28 : inR (safeN s c) 1 3 = true := inR_true.2 (by omega)
        generalize safeN s c = kn at H26 hk h28
        generalize safeC s c = sf at H29 hk hsl HSO
        generalize liftS s c = ln at H27 hsl hlb
        have hks : (kn == 1) = sf := by
          rcases hk with ⟨h1, h2⟩ | ⟨h1, h2, _⟩ | ⟨h1, h2⟩ <;> subst h1 h2 <;> rfl
        have HK := Lib.hid hk
        have hln : decide (ln < 0) = false := decide_eq_false (by omega)
        have hlw : decide (s.wh ≤ ln) = sf := hsl.symm
        have H28 := Lib.hid h28
        have hI0 := ints_made
        clear hI0
        clear hv h40 hc hS hcr hk hsl hlb h28 hnl
        as_aux_lemma =>
        obtain ⟨Ap, cp, Ab, cb⟩ := L
        go_enter Try.func4, Try.ntmps4
        go_upto_region 1 with (fail)
        have e := HW0.out
        rw [e]
        clear e
        go_upto_region 3 with (first
          | (go_at_call 16; refine (HR.out W0 HM.out.S.H).mono ?_; rintro e w1 ⟨rfl, hb1⟩; have M1 := Lib.hid (HM.out.next hb1); obtain ⟨r0, r1, r2, r3, r4, r5⟩ := M1.out.c; have B1 := Lib.hid hb1; clear hb1)
          | (go_at_call 25; refine (H25.out w1 M1.out.S.H M1.out.S.i).mono ?_; rintro e w2 ⟨rfl, hb2⟩; have M2 := Lib.hid (M1.out.next hb2); obtain ⟨s0, s1, s2, s3, s4, s5⟩ := M2.out.c; have B2 := Lib.hid (hb0to B1.out hb2); clear hb2))
        have HI0 := Lib.hid (ints_made w2 w2.heap.size (Nat.le_refl _))
        go_cut [7, 8] (fun s7 s8 wx => s7 = .int .i64 kn ∧ s8 = .int .i64 0 ∧ Hid (Below w2.heap.size w2 wx))
        case first =>
          go_region_held3 (fun w' => w'.cell? ⟨w.heap.size, 0, none⟩ = some (.int .i64 s.wl) ∧ w'.cell? ⟨w.heap.size, 1, none⟩ = some (.int .i64 s.wh) ∧ w'.cell? ⟨w.heap.size, 2, none⟩ = some (.slice Ap s.ps.length cp) ∧ w'.cell? ⟨w.heap.size, 3, none⟩ = some (.slice Ab s.bs.length cb)) (first | go_keep)
            (first
              | (refine step_copyI (by rfl) (.tmp 31) (.tmp 32) (by rfl) w2.heap.size _ [] (by rfl) (show Ints (w2.alloc (.cells #[] 3)).drew w2.heap.size _ [] from HI0.out) A cv c HA.out (by rfl) (ints_later M2.out.S.i (al_below w2 (.cells #[] 3)).drew) (by simp) (by omega) (by simp) ?_; intro v3 w3 h1 h2; have B3 := Lib.hid ((al_below w2 (.cells #[] 3)).drew.trans h2); obtain ⟨A3, c3', rfl, -, -, hA3⟩ := (show Ints w3 w2.heap.size v3 c from h1).lay; have I3 := Lib.hid hA3.at_; have M3 := Lib.hid (M2.out.next B3.out); obtain ⟨t0, t1, t2, t3, t4, t5⟩ := M3.out.c; clear h1 h2 hA3)
              | (go_at_call 26; refine (H26.out A3 c3' w3 M3.out.S.H I3.out).mono ?_; rintro e w4 ⟨rfl, hb4⟩; have B4 := Lib.hid (hb0to B3.out hb4); have M4 := Lib.hid (M3.out.next hb4); obtain ⟨u0, u1, u2, u3, u4, u5⟩ := M4.out.c; clear hb4))
          all_goals
            go_wp2_with (fail)
            go_meet
            exact ⟨rfl, rfl, B4⟩
        case rest =>
          obtain ⟨rfl, rfl, hb4⟩ := hcut
          obtain ⟨w4, rfl⟩ : ∃ x : World, x = wc := ⟨_, rfl⟩
          have M4 := Lib.hid (M2.out.next hb4.out)
          have B4 := Lib.hid (hb0to B2.out hb4.out)
          clear s0 s1 s2 s3 s4 s5 r0 r1 r2 r3 r4 r5 c0 c1 c2' c3 c4 c5
          obtain ⟨s0, s1, s2, s3, s4, s5⟩ := M4.out.c
          go_upto_region 11 with (first
            | (go_at_call 19; refine (H19.out w4 M4.out.S.H).mono ?_; rintro e w5 ⟨⟨A7, c7, rfl, hA7⟩, hb5⟩; have M5 := Lib.hid (M4.out.next hb5); obtain ⟨t0, t1, t2, t3, t4, t5⟩ := M5.out.c; have B5 := Lib.hid (hb0to B4.out hb5); have I7 := Lib.hid hA7.ints; clear hb5 hA7)
            | (go_at_call 27; refine (H27.out w5 M5.out.S.H M5.out.S.i).mono ?_; rintro e w6 ⟨rfl, hb6⟩; have M6 := Lib.hid (M5.out.next hb6); obtain ⟨u0, u1, u2, u3, u4, u5⟩ := M6.out.c; have B6 := Lib.hid (hb0to B5.out hb6); have I76 := Lib.hid (ints_later I7.out hb6); clear hb6)
            | (go_at_call 28; refine (within28_any _ _ _ _).mono ?_; rintro e w' ⟨rfl, rfl⟩; rw [H28.out])
            | (go_at_call 29; refine (H29.out A7 c7 w6 M6.out.S.H M6.out.S.i I76.out).mono ?_; rintro e w7 ⟨rfl, hb7⟩; have M7 := Lib.hid (M6.out.next hb7); obtain ⟨v0, v1, v2, v3, v4, v5⟩ := M7.out.c; have B7 := Lib.hid (hb0to B6.out hb7); clear hb7))
          have hp0 := HS.out
          by_cases hp40 : 40 < p.length
          · have hd2 : decide ((40 : Int) < (p.length : Int)) = true := decide_eq_true (by omega)
            clear hp40 hp0
            as_aux_lemma =>
            go_wp2_with ((go_at_call 17; refine (works_any _).mono ?_; rintro e w9 ⟨rfl, hb9⟩; have B9 := Lib.hid (hb0to B7.out hb9); clear hb9))
            go_ret
            exact ⟨rfl, hb0to HBW.out B9.out⟩
          · have hd2 : decide ((40 : Int) < (p.length : Int)) = false := decide_eq_false (by omega)
            have hp4 : p.length ≤ 1000 := by omega
            cases hin : inR n s.wl s.wh
            · have HIN := Lib.hid hin
              clear hp40 hin hp0
              as_aux_lemma =>
              go_wp2_with (first
                | (go_at_call 28; refine (within28_any _ _ _ _).mono ?_; rintro e w' ⟨rfl, rfl⟩; rw [HIN.out])
                | (go_at_call 17; refine (works_any _).mono ?_; rintro e w9 ⟨rfl, hb9⟩; have B9 := Lib.hid (hb0to B7.out hb9); clear hb9))
              go_ret
              exact ⟨rfl, hb0to HBW.out B9.out⟩
            · have HIN := Lib.hid hin
              have H30 := Lib.hid (fun L' W hW hI => areParts_any L' s hp0 p A2 c2 hp4 W hW hI)
              cases hpb : partsB s p
              · rw [hpb] at H30
                clear hp40 hin hp0 hpb
                as_aux_lemma =>
                go_wp2_with (first
                  | (go_at_call 28; refine (within28_any _ _ _ _).mono ?_; rintro e w' ⟨rfl, rfl⟩; rw [HIN.out])
                  | (go_at_call 30; refine (H30.out _ w7 M7.out.S.H M7.out.j).mono ?_; rintro e w8 ⟨rfl, hb8⟩; have B8 := Lib.hid (hb0to B7.out hb8); clear hb8)
                  | (go_at_call 17; refine (works_any _).mono ?_; rintro e w9 ⟨rfl, hb9⟩; have B9 := Lib.hid (hb0to B8.out hb9); clear hb9))
                go_ret
                exact ⟨rfl, hb0to HBW.out B9.out⟩
              · rw [hpb] at H30
                have hpt := partsB_iff.1 hpb
                have hw := inR_true.1 hin
                have hw0 := hp0.w0
                have hw2 := hp0.w2
                have H31 := Lib.hid (fun L' W hW hI hJ => rOver_any L' s hp0 c p n A A2 cv c2 hl4 (by rw [hpt.len, HCR.out.1]; exact Nat.le_refl _) hp4 HCR.out.2.1 (by omega) (parts_bd hp0 hpt) W hW hI hJ)
                have hso := HSO.out hpt hw.1 hw.2
                have hno := HNO.out hpt hw.1
                generalize overB s c n p = ov at H31 hso hno
                have hkk := HK.out
                clear HK
                rcases hkk with ⟨h1, h2⟩ | ⟨h1, h2, h3⟩ | ⟨h1, h2⟩
                · have hov := hso h2
                  clear hso hno hp40 hin hp0 hpb hpt hw hw0 hw2
                  subst h1 h2 hov
                  as_aux_lemma =>
                  go_wp2_with (first
                    | (go_at_call 28; refine (within28_any _ _ _ _).mono ?_; rintro e w' ⟨rfl, rfl⟩; rw [HIN.out])
                    | (go_at_call 30; refine (H30.out _ w7 M7.out.S.H M7.out.j).mono ?_; rintro e w8 ⟨rfl, hb8⟩; have B8 := Lib.hid (hb0to B7.out hb8); have M8 := Lib.hid (M7.out.next hb8); obtain ⟨x0, x1, x2, x3, x4, x5⟩ := M8.out.c; clear hb8)
                    | (go_at_call 31; refine (H31.out _ w8 M8.out.S.H M8.out.S.i M8.out.j).mono ?_; rintro e wa ⟨rfl, hba⟩; have Ba := Lib.hid (hb0to B8.out hba); clear hba)
                    | (go_at_call 17; refine (works_any _).mono ?_; rintro e w9 ⟨rfl, hb9⟩; have B9 := Lib.hid (hb0to Ba.out hb9); clear hb9))
                  go_ret
                  exact ⟨rfl, hb0to HBW.out B9.out⟩
                · have hov := hno h3
                  clear hso hno hp40 hin hp0 hpb hpt hw hw0 hw2 h3
                  subst h1 h2 hov
                  as_aux_lemma =>
                  go_wp2_with (first
                    | (go_at_call 28; refine (within28_any _ _ _ _).mono ?_; rintro e w' ⟨rfl, rfl⟩; rw [HIN.out])
                    | (go_at_call 30; refine (H30.out _ w7 M7.out.S.H M7.out.j).mono ?_; rintro e w8 ⟨rfl, hb8⟩; have B8 := Lib.hid (hb0to B7.out hb8); have M8 := Lib.hid (M7.out.next hb8); obtain ⟨x0, x1, x2, x3, x4, x5⟩ := M8.out.c; clear hb8)
                    | (go_at_call 31; refine (H31.out _ w8 M8.out.S.H M8.out.S.i M8.out.j).mono ?_; rintro e wa ⟨rfl, hba⟩; have Ba := Lib.hid (hb0to B8.out hba); clear hba)
                    | (go_at_call 17; refine (works_any _).mono ?_; rintro e w9 ⟨rfl, hb9⟩; have B9 := Lib.hid (hb0to Ba.out hb9); clear hb9))
                  go_ret
                  exact ⟨rfl, hb0to HBW.out B9.out⟩
                · clear hso hno hp40 hin hp0 hpb hpt hw hw0 hw2
                  subst h1 h2
                  as_aux_lemma =>
                  go_wp2_with (first
                    | (go_at_call 28; refine (within28_any _ _ _ _).mono ?_; rintro e w' ⟨rfl, rfl⟩; rw [HIN.out])
                    | (go_at_call 30; refine (H30.out _ w7 M7.out.S.H M7.out.j).mono ?_; rintro e w8 ⟨rfl, hb8⟩; have B8 := Lib.hid (hb0to B7.out hb8); have M8 := Lib.hid (M7.out.next hb8); obtain ⟨x0, x1, x2, x3, x4, x5⟩ := M8.out.c; clear hb8)
                    | (go_at_call 31; refine (H31.out _ w8 M8.out.S.H M8.out.S.i M8.out.j).mono ?_; rintro e wa ⟨rfl, hba⟩; have Ba := Lib.hid (hb0to B8.out hba); clear hba)
                    | (go_at_call 17; refine (works_any _).mono ?_; rintro e w9 ⟨rfl, hb9⟩; have B9 := Lib.hid (hb0to Ba.out hb9); clear hb9))
                  go_ret
                  exact ⟨rfl, hb0to HBW.out B9.out⟩

end Go.Proofs.Ytgjpllmmpclgaaa
