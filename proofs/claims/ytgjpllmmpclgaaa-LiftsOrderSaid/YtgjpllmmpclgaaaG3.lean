import Derived.Test.YtgjpllmmpclgaaaM4
namespace Go.Proofs.Ytgjpllmmpclgaaa
open Go.RowKit

/-! LiftsShort. -/
/-- What a law keeps: its sea, the sea's box, and a list of numbers. -/
structure SIn (W : World) (b : Nat) (L : SL) (s : Sea) (A : Option Addr) (l : List Int) : Prop where
  H : SeaAt W W.heap.size L s
  x : SBox W b L s
  i : IntsAt W W.heap.size A l
theorem SIn.next {W W' : World} {b : Nat} {L : SL} {s : Sea} {A : Option Addr} {l : List Int} (h : SIn W b L s A l) (hb : Below W.heap.size W W') : SIn W' b L s A l :=
  ⟨h.H.below hb, h.x.of (hb.block _ h.x.lt), ints_later h.i hb⟩
theorem short_ret {s : Sea} (hv : validS s = true) : shortRet s = shortOf (shortS s) := by unfold shortRet; rw [askS_true hv]; simp
theorem short_len {s : Sea} : (shortS s).length ≤ s.ps.length := shortTo_len s _
set_option maxRecDepth 100000 in
set_option maxHeartbeats 4000000 in
theorem short_law (L : SL) (s : Sea) (A : Option Addr) (c : Nat) (l : List Int) (w : World) (hH : SeaAt w w.heap.size L s) (hI : IntsAt w w.heap.size A l) : Calls Try.prog 3 #[L.enc s, .slice A l.length c] w fun e w' => e = .returned (.bool true) ∧ Below w.heap.size w w' := by
  have hbw := al_below w (.cells #[.int .i64 s.wl, .int .i64 s.wh, .slice L.Ap s.ps.length L.cp, .slice L.Ab s.bs.length L.cb] 27)
  have HB := Lib.hid (SBox.new w L s)
  obtain ⟨c0, c1, c2, c3⟩ := (SBox.new w L s).cells
  obtain ⟨W0, hW0⟩ : ∃ W0, w.alloc (.cells #[.int .i64 s.wl, .int .i64 s.wh, .slice L.Ap s.ps.length L.cp, .slice L.Ab s.bs.length L.cb] 27) = W0 := ⟨_, rfl⟩
  rw [hW0] at hbw HB c0 c1 c2 c3
  have HBW := Lib.hid hbw
  have HW0 := Lib.hid hW0
  have HM := Lib.hid (SIn.mk (hH.below hbw) HB.out (ints_later hI hbw))
  have HR := Lib.hid (fun W hW => ready_any L s W hW)
  clear hbw hW0 hH hI
  cases hv : validS s
  · rw [hv] at HR
    clear hv
    as_aux_lemma =>
    obtain ⟨Ap, cp, Ab, cb⟩ := L
    go_enter Try.func3, Try.ntmps3
    go_upto_region 1 with (fail)
    have e := HW0.out
    rw [e]
    clear e
    go_wp2_with (first
      | (go_at_call 16; refine (HR.out W0 HM.out.H).mono ?_; rintro e w1 ⟨rfl, hb1⟩; have M1 := Lib.hid (HM.out.next hb1); obtain ⟨r0, r1, r2, r3⟩ := M1.out.x.cells; have B1 := Lib.hid hb1; clear hb1)
      | (go_at_call 17; refine (works_any _).mono ?_; rintro e w9 ⟨rfl, hb9⟩; have B9 := Lib.hid (hb0to B1.out hb9); clear hb9))
    go_ret
    exact ⟨rfl, hb0to HBW.out B9.out⟩
  · rw [hv] at HR
    by_cases h40 : 40 < l.length
    · have hd : decide ((40 : Int) < (l.length : Int)) = true := decide_eq_true (by omega)
      clear hv h40
      as_aux_lemma =>
      obtain ⟨Ap, cp, Ab, cb⟩ := L
      go_enter Try.func3, Try.ntmps3
      go_upto_region 1 with (fail)
      have e := HW0.out
      rw [e]
      clear e
      go_wp2_with (first
        | (go_at_call 16; refine (HR.out W0 HM.out.H).mono ?_; rintro e w1 ⟨rfl, hb1⟩; have M1 := Lib.hid (HM.out.next hb1); obtain ⟨r0, r1, r2, r3⟩ := M1.out.x.cells; have B1 := Lib.hid hb1; clear hb1)
        | (go_at_call 17; refine (works_any _).mono ?_; rintro e w9 ⟨rfl, hb9⟩; have B9 := Lib.hid (hb0to B1.out hb9); clear hb9))
      go_ret
      exact ⟨rfl, hb0to HBW.out B9.out⟩
    · have hd : decide ((40 : Int) < (l.length : Int)) = false := decide_eq_false (by omega)
      have hl4 : l.length ≤ 1000 := by omega
      have hS := SOK.ofValid hv
      have hpl := hS.pl
      have hbl := hS.bl
      have hwr : IntKind.i64.wrap ((s.ps.length : Int) - 1) = (s.ps.length : Int) - 1 := IntWalk.i64_in _ (by omega)
      have H18 := Lib.hid (fun W hW => Short_any L s W hW)
      have H19 := Lib.hid (fun W hW => needs_any L s hv W hW)
      have hq : shortRet s = shortOf (shortS s) := short_ret hv
      rw [hq] at H18
      have HIS := Lib.hid (fun h => short_is (s := s) h)
      have HMIN := Lib.hid (fun p h1 h2 h3 => short_min hS (p := p) h1 h2 h3)
      have hbe := short_len (s := s)
      have H22 := Lib.hid (fun n W hW => Can_any L s (by omega) n W hW)
      have HNL := Lib.hid (needsL_len s)
      have H21 := Lib.hid (fun p hp Ax cx W hI => rising_any p hp s.ps.length Ax cx W hI)
      generalize shortS s = best at H18 HIS HMIN hbe
      clear hv h40 hS hq
      by_cases hb0 : best = []
      · subst hb0
        rw [show shortOf [] = ([], 3) from rfl] at H18
        have H18' := Lib.hid (fun W hW => show Calls Try.prog 18 #[L.enc s] W fun e w' => (∃ A cp, e = .returned (.tuple #[.slice A 0 cp, .int .i64 3]) ∧ IntsAt w' w'.heap.size A []) ∧ Below W.heap.size W w' from (H18.out W hW).mono fun _ _ ⟨⟨A, cp, he, hI⟩, hb⟩ => ⟨⟨A, cp, by rw [he]; try rfl, hI.ints⟩, hb⟩)
        clear H18
        as_aux_lemma =>
        obtain ⟨Ap, cp, Ab, cb⟩ := L
        go_enter Try.func3, Try.ntmps3
        go_upto_region 1 with (fail)
        have e := HW0.out
        rw [e]
        clear e
        go_wp2_with (first
          | (go_at_call 16; refine (HR.out W0 HM.out.H).mono ?_; rintro e w1 ⟨rfl, hb1⟩; have M1 := Lib.hid (HM.out.next hb1); obtain ⟨r0, r1, r2, r3⟩ := M1.out.x.cells; have B1 := Lib.hid hb1; clear hb1)
          | (go_at_call 18; refine (H18'.out w1 M1.out.H).mono ?_; rintro e w2 ⟨⟨A5, c5, rfl, hA5⟩, hb2⟩; have M2 := Lib.hid (M1.out.next hb2); obtain ⟨s0, s1, s2, s3⟩ := M2.out.x.cells; have B2 := Lib.hid (hb0to B1.out hb2); have I5 := Lib.hid hA5; clear hb2 hA5)
          | (go_at_call 19; refine (H19.out w2 M2.out.H).mono ?_; rintro e w3 ⟨⟨A7, c7, rfl, hA7⟩, hb3⟩; have M3 := Lib.hid (M2.out.next hb3); obtain ⟨t0, t1, t2, t3⟩ := M3.out.x.cells; have B3 := Lib.hid (hb0to B2.out hb3); have I5 := Lib.hid (ints_later I5.out hb3); have I7 := Lib.hid hA7.ints; clear hb3 hA7)
          | (go_at_call 20; refine (known_any _ _).mono ?_; rintro e w' ⟨rfl, rfl⟩))
        refine wp_region_extW (by kernel_rfl) (by kernel_rfl) ?_
        repeat (go_big_quiet_step (fail))
        refine wpQuiet_nil ?_
        rintro _ ⟨y1, rfl⟩
        have M4 := Lib.hid (M3.out.next (extB_below w3 y1))
        have B4 := Lib.hid (hb0to B3.out (extB_below w3 y1))
        have I5' := Lib.hid (ints_later I5.out (extB_below w3 y1))
        have I7' := Lib.hid (ints_later I7.out (extB_below w3 y1))
        clear I5
        have I5 := I5'
        obtain ⟨W4, hW4⟩ : ∃ W4, extB w3 y1 = W4 := ⟨_, rfl⟩
        rw [hW4] at M4 B4 I5 I5' I7' ⊢
        clear hW4 t0 t1 t2 t3
        obtain ⟨t0, t1, t2, t3⟩ := M4.out.x.cells
        by_cases hl0 : l = []
        · subst hl0
          as_aux_lemma =>
          go_wp2_with ((go_at_call 17; refine (works_any _).mono ?_; rintro e w9 ⟨rfl, hb9⟩; have B9 := Lib.hid (hb0to B4.out hb9); clear hb9))
          go_ret
          exact ⟨rfl, hb0to HBW.out B9.out⟩
        · have hl1 : ((l.length : Int) == 0) = false := beq_eq_false_iff_ne.2 (by have := List.length_pos_iff.2 hl0; omega)
          have HL0 := Lib.hid hl0
          clear hl0
          have H21l := Lib.hid (H21.out l hl4 A c W4 M4.out.i)
          cases hr : riseB l s.ps.length
          · rw [hr] at H21l
            clear hr
            as_aux_lemma =>
            go_wp2_with (first
              | (go_at_call 21; refine H21l.out.mono ?_; rintro e w6 ⟨rfl, hb6⟩; have B6 := Lib.hid (hb0to B4.out hb6); clear hb6)
              | (go_at_call 17; refine (works_any _).mono ?_; rintro e w9 ⟨rfl, hb9⟩; have B9 := Lib.hid (hb0to B6.out hb9); clear hb9))
            go_ret
            exact ⟨rfl, hb0to HBW.out B9.out⟩
          · rw [hr] at H21l
            have HRI := Lib.hid hr
            clear hr
            as_aux_lemma =>
            go_wp2_with ((go_at_call 21; refine H21l.out.mono ?_; rintro e w6 ⟨rfl, hb6⟩; have B6 := Lib.hid (hb0to B4.out hb6); have M6 := Lib.hid (M4.out.next hb6); have I56 := Lib.hid (ints_later I5.out hb6); have I76 := Lib.hid (ints_later I7'.out hb6); clear hb6))
            have hmin := HMIN.out l HL0.out HRI.out (by first | exact .inl rfl | simp)
            obtain ⟨v0, v1, v2, v3⟩ := M6.out.x.cells
            have x0 := extB_cell v0
            have x1 := extB_cell v1
            have x2 := extB_cell v2
            have x3 := extB_cell v3
            have H23 := Lib.hid (fun z => Least_any (needsL s) l A7 A c7 c (by rw [HNL.out]; omega) hl4 HL0.out (fun i hi => by rw [HNL.out]; exact (rise_iff.1 HRI.out).2 i hi) (extB w6 z) (ints_later I76.out (extB_below _ z)) (ints_later M6.out.i (extB_below _ z)))
            rw [HNL.out] at H23
            have H22l := Lib.hid (fun z => H22.out (leastL (needsL s) l) (extB w6 z) (M6.out.H.below (extB_below _ z)))
            generalize leastL (needsL s) l = m at hmin H23 H22l
            generalize canC s m = cn at hmin H22l
            have hdc : decide (l.length ≤ cn) = true := decide_eq_true hmin
            clear hmin v0 v1 v2 v3
            refine wp_region_extW (by kernel_rfl) (by kernel_rfl) ?_
            repeat (go_big_quiet_step (first
              | (go_at_call 23; exact ext_same (H23.out _))
              | (go_at_call 22; exact ext_call (H22l.out _))
              | (go_at_call 17; exact ext_call (works_any _))))
            refine wpQuiet_nil ?_
            rintro _ ⟨y1, rfl⟩
            go_wp2_with (fail)
            go_ret
            exact ⟨rfl, hb0to HBW.out (hb0to B6.out (extB_below w6 y1))⟩
      · rw [show shortOf best = (best, 0) by unfold shortOf; rw [if_neg hb0]] at H18
        have H18' := Lib.hid (fun W hW => show Calls Try.prog 18 #[L.enc s] W fun e w' => (∃ A cp, e = .returned (.tuple #[.slice A best.length cp, .int .i64 0]) ∧ IntsAt w' w'.heap.size A best) ∧ Below W.heap.size W w' from (H18.out W hW).mono fun _ _ ⟨⟨A, cp, he, hI⟩, hb⟩ => ⟨⟨A, cp, by rw [he]; try rfl, hI.ints⟩, hb⟩)
        obtain ⟨hrb, hcb⟩ := HIS.out hb0
        have hbl4 : best.length ≤ 1000 := by omega
        have hb1 : decide (0 < best.length) = true := decide_eq_true (List.length_pos_iff.2 hb0)
        have H21b' := Lib.hid (fun Ax cx W hI => H21.out best hbl4 Ax cx W hI)
        rw [hrb] at H21b'
        have H23b' := Lib.hid (fun Ax Bx cx dx W h1 h2 => Least_any (needsL s) best Ax Bx cx dx (by rw [HNL.out]; omega) hbl4 hb0 (fun i hi => by rw [HNL.out]; exact (rise_iff.1 hrb).2 i hi) W h1 h2)
        rw [HNL.out] at H23b'
        have H22b' := Lib.hid (fun W hW => H22.out (leastL (needsL s) best) W hW)
        generalize leastL (needsL s) best = mb at H23b' H22b' hcb
        generalize canC s mb = cnb at H22b' hcb
        have hdb : decide (best.length ≤ cnb) = false := decide_eq_false (by omega)
        clear H18 hb0 hrb
        as_aux_lemma =>
        obtain ⟨Ap, cp, Ab, cb⟩ := L
        go_enter Try.func3, Try.ntmps3
        go_upto_region 1 with (fail)
        have e := HW0.out
        rw [e]
        clear e
        go_wp2_with (first
          | (go_at_call 16; refine (HR.out W0 HM.out.H).mono ?_; rintro e w1 ⟨rfl, hb1⟩; have M1 := Lib.hid (HM.out.next hb1); obtain ⟨r0, r1, r2, r3⟩ := M1.out.x.cells; have B1 := Lib.hid hb1; clear hb1)
          | (go_at_call 18; refine (H18'.out w1 M1.out.H).mono ?_; rintro e w2 ⟨⟨A5, c5, rfl, hA5⟩, hb2⟩; have M2 := Lib.hid (M1.out.next hb2); obtain ⟨s0, s1, s2, s3⟩ := M2.out.x.cells; have B2 := Lib.hid (hb0to B1.out hb2); have I5 := Lib.hid hA5; clear hb2 hA5)
          | (go_at_call 19; refine (H19.out w2 M2.out.H).mono ?_; rintro e w3 ⟨⟨A7, c7, rfl, hA7⟩, hb3⟩; have M3 := Lib.hid (M2.out.next hb3); obtain ⟨t0, t1, t2, t3⟩ := M3.out.x.cells; have B3 := Lib.hid (hb0to B2.out hb3); have I5 := Lib.hid (ints_later I5.out hb3); have I7 := Lib.hid hA7.ints; clear hb3 hA7)
          | (go_at_call 20; refine (known_any _ _).mono ?_; rintro e w' ⟨rfl, rfl⟩))
        have H21b := Lib.hid (fun z => H21b'.out A5 c5 (extB w3 z) (ints_later I5.out (extB_below _ z)))
        have H23b := Lib.hid (fun z => H23b'.out A7 A5 c7 c5 (extB w3 z) (ints_later I7.out (extB_below _ z)) (ints_later I5.out (extB_below _ z)))
        have H22b := Lib.hid (fun z => H22b'.out (extB w3 z) (M3.out.H.below (extB_below _ z)))
        have x0 := extB_cell t0
        have x1 := extB_cell t1
        have x2 := extB_cell t2
        have x3 := extB_cell t3
        refine wp_region_extW (by kernel_rfl) (by kernel_rfl) ?_
        repeat (go_big_quiet_step (first
          | (go_at_call 21; exact ext_call (H21b.out _))
          | (go_at_call 23; exact ext_same (H23b.out _))
          | (go_at_call 22; exact ext_call (H22b.out _))))
        refine wpQuiet_nil ?_
        rintro _ ⟨y1, rfl⟩
        have M4 := Lib.hid (M3.out.next (extB_below w3 y1))
        have B4 := Lib.hid (hb0to B3.out (extB_below w3 y1))
        have I5' := Lib.hid (ints_later I5.out (extB_below w3 y1))
        have I7' := Lib.hid (ints_later I7.out (extB_below w3 y1))
        clear I5
        have I5 := I5'
        clear x0 x1 x2 x3 H23b H22b H21b hcb
        obtain ⟨W4, hW4⟩ : ∃ W4, extB w3 y1 = W4 := ⟨_, rfl⟩
        rw [hW4] at M4 B4 I5 I5' I7' ⊢
        clear hW4 t0 t1 t2 t3
        obtain ⟨t0, t1, t2, t3⟩ := M4.out.x.cells
        by_cases hl0 : l = []
        · subst hl0
          as_aux_lemma =>
          go_wp2_with ((go_at_call 17; refine (works_any _).mono ?_; rintro e w9 ⟨rfl, hb9⟩; have B9 := Lib.hid (hb0to B4.out hb9); clear hb9))
          go_ret
          exact ⟨rfl, hb0to HBW.out B9.out⟩
        · have hl1 : ((l.length : Int) == 0) = false := beq_eq_false_iff_ne.2 (by have := List.length_pos_iff.2 hl0; omega)
          have HL0 := Lib.hid hl0
          clear hl0
          have H21l := Lib.hid (H21.out l hl4 A c W4 M4.out.i)
          cases hr : riseB l s.ps.length
          · rw [hr] at H21l
            clear hr
            as_aux_lemma =>
            go_wp2_with (first
              | (go_at_call 21; refine H21l.out.mono ?_; rintro e w6 ⟨rfl, hb6⟩; have B6 := Lib.hid (hb0to B4.out hb6); clear hb6)
              | (go_at_call 17; refine (works_any _).mono ?_; rintro e w9 ⟨rfl, hb9⟩; have B9 := Lib.hid (hb0to B6.out hb9); clear hb9))
            go_ret
            exact ⟨rfl, hb0to HBW.out B9.out⟩
          · rw [hr] at H21l
            have HRI := Lib.hid hr
            clear hr
            rcases Nat.lt_trichotomy best.length l.length with hc | hc | hc
            · have hd1 : decide (best.length < l.length) = true := decide_eq_true hc
              as_aux_lemma =>
              go_wp2_with (first
                | (go_at_call 21; refine H21l.out.mono ?_; rintro e w6 ⟨rfl, hb6⟩; have B6 := Lib.hid (hb0to B4.out hb6); have M6 := Lib.hid (M4.out.next hb6); have I56 := Lib.hid (ints_later I5.out hb6); have I76 := Lib.hid (ints_later I7'.out hb6); clear hb6)
                | (go_at_call 17; refine (works_any _).mono ?_; rintro e w9 ⟨rfl, hb9⟩; have B9 := Lib.hid (hb0to B6.out hb9); clear hb9))
              go_ret
              exact ⟨rfl, hb0to HBW.out B9.out⟩
            · have hd1 : decide (best.length < l.length) = false := decide_eq_false (by omega)
              have hd2 : ((l.length : Int) == (best.length : Int)) = true := by simp [hc]
              have HC := Lib.hid hc
              have H24 := Lib.hid (fun W h1 h2 => rEarlier_any l best A A5 c c5 hl4 (by omega) W h1 h2)
              clear hc
              cases he : earlierB l best
              · rw [he] at H24
                clear he
                as_aux_lemma =>
                go_wp2_with (first
                  | (go_at_call 21; refine H21l.out.mono ?_; rintro e w6 ⟨rfl, hb6⟩; have B6 := Lib.hid (hb0to B4.out hb6); have M6 := Lib.hid (M4.out.next hb6); have I56 := Lib.hid (ints_later I5.out hb6); have I76 := Lib.hid (ints_later I7'.out hb6); clear hb6)
                  | (go_at_call 24; refine (H24.out w6 M6.out.i I56.out).mono ?_; rintro e w7 ⟨rfl, hb7⟩; have B7 := Lib.hid (hb0to B6.out hb7); clear hb7)
                  | (go_at_call 17; refine (works_any _).mono ?_; rintro e w9 ⟨rfl, hb9⟩; have B9 := Lib.hid (hb0to B7.out hb9); clear hb9))
                go_ret
                exact ⟨rfl, hb0to HBW.out B9.out⟩
              · rw [he] at H24
                have HE := Lib.hid he
                clear he
                as_aux_lemma =>
                go_wp2_with (first
                  | (go_at_call 21; refine H21l.out.mono ?_; rintro e w6 ⟨rfl, hb6⟩; have B6 := Lib.hid (hb0to B4.out hb6); have M6 := Lib.hid (M4.out.next hb6); have I56 := Lib.hid (ints_later I5.out hb6); have I76 := Lib.hid (ints_later I7'.out hb6); clear hb6)
                  | (go_at_call 24; refine (H24.out w6 M6.out.i I56.out).mono ?_; rintro e w7 ⟨rfl, hb7⟩; have B7 := Lib.hid (hb0to B6.out hb7); have M7 := Lib.hid (M6.out.next hb7); have I77 := Lib.hid (ints_later I76.out hb7); clear hb7))
                have hmin := HMIN.out l HL0.out HRI.out (.inr (.inr ⟨HC.out.symm, HE.out⟩))
                obtain ⟨v0, v1, v2, v3⟩ := M7.out.x.cells
                have x0 := extB_cell v0
                have x1 := extB_cell v1
                have x2 := extB_cell v2
                have x3 := extB_cell v3
                have H23 := Lib.hid (fun z => Least_any (needsL s) l A7 A c7 c (by rw [HNL.out]; omega) hl4 HL0.out (fun i hi => by rw [HNL.out]; exact (rise_iff.1 HRI.out).2 i hi) (extB w7 z) (ints_later I77.out (extB_below _ z)) (ints_later M7.out.i (extB_below _ z)))
                rw [HNL.out] at H23
                have H22l := Lib.hid (fun z => H22.out (leastL (needsL s) l) (extB w7 z) (M7.out.H.below (extB_below _ z)))
                generalize leastL (needsL s) l = m at hmin H23 H22l
                generalize canC s m = cn at hmin H22l
                have hdc : decide (l.length ≤ cn) = true := decide_eq_true hmin
                clear hmin v0 v1 v2 v3
                refine wp_region_extW (by kernel_rfl) (by kernel_rfl) ?_
                repeat (go_big_quiet_step (first
                  | (go_at_call 23; exact ext_same (H23.out _))
                  | (go_at_call 22; exact ext_call (H22l.out _))
                  | (go_at_call 17; exact ext_call (works_any _))))
                refine wpQuiet_nil ?_
                rintro _ ⟨y1, rfl⟩
                go_wp2_with (fail)
                go_ret
                exact ⟨rfl, hb0to HBW.out (hb0to B7.out (extB_below w7 y1))⟩
            · have hd1 : decide (best.length < l.length) = false := decide_eq_false (by omega)
              have hd2 : ((l.length : Int) == (best.length : Int)) = false := beq_eq_false_iff_ne.2 (by omega)
              have HC := Lib.hid hc
              as_aux_lemma =>
              go_wp2_with ((go_at_call 21; refine H21l.out.mono ?_; rintro e w6 ⟨rfl, hb6⟩; have B6 := Lib.hid (hb0to B4.out hb6); have M6 := Lib.hid (M4.out.next hb6); have I56 := Lib.hid (ints_later I5.out hb6); have I76 := Lib.hid (ints_later I7'.out hb6); clear hb6))
              have hmin := HMIN.out l HL0.out HRI.out (.inr (.inl HC.out))
              obtain ⟨v0, v1, v2, v3⟩ := M6.out.x.cells
              have x0 := extB_cell v0
              have x1 := extB_cell v1
              have x2 := extB_cell v2
              have x3 := extB_cell v3
              have H23 := Lib.hid (fun z => Least_any (needsL s) l A7 A c7 c (by rw [HNL.out]; omega) hl4 HL0.out (fun i hi => by rw [HNL.out]; exact (rise_iff.1 HRI.out).2 i hi) (extB w6 z) (ints_later I76.out (extB_below _ z)) (ints_later M6.out.i (extB_below _ z)))
              rw [HNL.out] at H23
              have H22l := Lib.hid (fun z => H22.out (leastL (needsL s) l) (extB w6 z) (M6.out.H.below (extB_below _ z)))
              generalize leastL (needsL s) l = m at hmin H23 H22l
              generalize canC s m = cn at hmin H22l
              have hdc : decide (l.length ≤ cn) = true := decide_eq_true hmin
              clear hmin v0 v1 v2 v3
              refine wp_region_extW (by kernel_rfl) (by kernel_rfl) ?_
              repeat (go_big_quiet_step (first
                | (go_at_call 23; exact ext_same (H23.out _))
                | (go_at_call 22; exact ext_call (H22l.out _))
                | (go_at_call 17; exact ext_call (works_any _))))
              refine wpQuiet_nil ?_
              rintro _ ⟨y1, rfl⟩
              go_wp2_with (fail)
              go_ret
              exact ⟨rfl, hb0to HBW.out (hb0to B6.out (extB_below w6 y1))⟩
end Go.Proofs.Ytgjpllmmpclgaaa
