import Derived.Test.YtgjpllmmpclgaaaM7
import Derived.Test.YtgjpllmmpclgaaaG3
namespace Go.Proofs.Ytgjpllmmpclgaaa
open Go.RowKit

/-! LiftsFirst. -/
/-- What LiftsFirst keeps. -/
structure FIn (W : World) (b : Nat) (L : SL) (s : Sea) (A : Option Addr) (c : List Int) (A2 : Option Addr) (p : List Int) : Prop where
  H : SeaAt W W.heap.size L s
  x : SBox W b L s
  i : IntsAt W W.heap.size A c
  j : IntsAt W W.heap.size A2 p
theorem FIn.next {W W' : World} {b : Nat} {L : SL} {s : Sea} {A : Option Addr} {c : List Int} {A2 : Option Addr} {p : List Int} (h : FIn W b L s A c A2 p) (hb : Below W.heap.size W W') : FIn W' b L s A c A2 p :=
  ⟨h.H.below hb, h.x.of (hb.block _ h.x.lt), ints_later h.i hb, ints_later h.j hb⟩
/-- A box with two numbers. -/
def PairBox (W : World) (z : Nat) (x : Int × Int) : Prop := W.heap[z]? = some (.cells #[.int .i64 x.1, .int .i64 x.2] 23 (0, 0))
theorem PairBox.cells {W : World} {z : Nat} {x : Int × Int} (h : PairBox W z x) : W.cell? ⟨z, 0, none⟩ = some (.int .i64 x.1) ∧ W.cell? ⟨z, 1, none⟩ = some (.int .i64 x.2) := by simp [World.cell?, show W.heap[z]? = _ from h]
theorem PairBox.next {W W' : World} {z : Nat} {x : Int × Int} (h : PairBox W z x) (hb : Below W.heap.size W W') : PairBox W' z x := (hb.block _ (heap_lt h)).trans h
theorem share_ret {s : Sea} (hv : validS s = true) {k : Nat} (hk : k < s.ps.length) : shareRet s k = (shares s k, 0) := by
  unfold shareRet
  rw [inR_true.2 (show (0 : Int) ≤ k ∧ (k : Int) ≤ s.ps.length - 1 by omega), askS_true hv]
  simp
theorem first_ret {s : Sea} {c : List Int} (hv : validS s = true) (hc : crewB s c = true) : firstRet s c = firstN s c := by
  unfold firstRet; rw [hc, askS_true hv]; simp
set_option maxRecDepth 100000 in
set_option maxHeartbeats 4000000 in
theorem first_law (L : SL) (s : Sea) (A : Option Addr) (cv : Nat) (c : List Int) (hA : A = none → cv = 0 ∧ c = []) (hcv : c.length ≤ cv) (A2 : Option Addr) (cw : Nat) (p : List Int) (w : World) (hH : SeaAt w w.heap.size L s) (hI : IntsAt w w.heap.size A c) (hJ : IntsAt w w.heap.size A2 p) : Calls Try.prog 10 #[L.enc s, .slice A c.length cv, .slice A2 p.length cw] w fun e w' => e = .returned (.bool true) ∧ Below w.heap.size w w' := by
  have hbw := al_below w (.cells #[.int .i64 s.wl, .int .i64 s.wh, .slice L.Ap s.ps.length L.cp, .slice L.Ab s.bs.length L.cb] 27)
  have HB := Lib.hid (SBox.new w L s)
  obtain ⟨c0, c1, c2, c3⟩ := (SBox.new w L s).cells
  obtain ⟨W0, hW0⟩ : ∃ W0, w.alloc (.cells #[.int .i64 s.wl, .int .i64 s.wh, .slice L.Ap s.ps.length L.cp, .slice L.Ab s.bs.length L.cb] 27) = W0 := ⟨_, rfl⟩
  rw [hW0] at hbw HB c0 c1 c2 c3
  have HBW := Lib.hid hbw
  have HW0 := Lib.hid hW0
  have HM := Lib.hid (FIn.mk (hH.below hbw) HB.out (ints_later hI hbw) (ints_later hJ hbw))
  have HR := Lib.hid (fun W hW => ready_any L s W hW)
  have HA := Lib.hid hA
  clear hbw hW0 hH hI hJ hA
  cases hv : validS s
  · rw [hv] at HR
    clear hv
    as_aux_lemma =>
    obtain ⟨Ap, cp, Ab, cb⟩ := L
    go_enter Try.func10, Try.ntmps10
    go_upto_region 1 with (fail)
    have e := HW0.out
    rw [e]
    clear e
    go_wp2_with (first
      | (go_at_call 16; refine (HR.out W0 HM.out.H).mono ?_; rintro e w1 ⟨rfl, hb1⟩; have M1 := Lib.hid (HM.out.next hb1); obtain ⟨r0, r1, r2, r3⟩ := M1.out.x.cells; have B1 := Lib.hid hb1; clear hb1)
      | (go_at_call 17; refine (works_any _).mono ?_; rintro e w9 ⟨rfl, hb9⟩; have B9 := Lib.hid (hb0to B1.out hb9); clear hb9))
    go_ret
    exact ⟨rfl, hb0to HBW.out B9.out⟩
  · rw [hv] at HR
    by_cases h40 : 40 < c.length
    · have hd : decide ((40 : Int) < (c.length : Int)) = true := decide_eq_true (by omega)
      clear hv h40
      as_aux_lemma =>
      obtain ⟨Ap, cp, Ab, cb⟩ := L
      go_enter Try.func10, Try.ntmps10
      go_upto_region 1 with (fail)
      have e := HW0.out
      rw [e]
      clear e
      go_wp2_with (first
      | (go_at_call 16; refine (HR.out W0 HM.out.H).mono ?_; rintro e w1 ⟨rfl, hb1⟩; have M1 := Lib.hid (HM.out.next hb1); obtain ⟨r0, r1, r2, r3⟩ := M1.out.x.cells; have B1 := Lib.hid hb1; clear hb1)
      | (go_at_call 17; refine (works_any _).mono ?_; rintro e w9 ⟨rfl, hb9⟩; have B9 := Lib.hid (hb0to B1.out hb9); clear hb9))
      go_ret
      exact ⟨rfl, hb0to HBW.out B9.out⟩
    · have hd : decide ((40 : Int) < (c.length : Int)) = false := decide_eq_false (by omega)
      by_cases hp40 : 40 < p.length
      · have hd2 : decide ((40 : Int) < (p.length : Int)) = true := decide_eq_true (by omega)
        clear hv h40 hp40
        as_aux_lemma =>
        obtain ⟨Ap, cp, Ab, cb⟩ := L
        go_enter Try.func10, Try.ntmps10
        go_upto_region 1 with (fail)
        have e := HW0.out
        rw [e]
        clear e
        go_wp2_with (first
      | (go_at_call 16; refine (HR.out W0 HM.out.H).mono ?_; rintro e w1 ⟨rfl, hb1⟩; have M1 := Lib.hid (HM.out.next hb1); obtain ⟨r0, r1, r2, r3⟩ := M1.out.x.cells; have B1 := Lib.hid hb1; clear hb1)
      | (go_at_call 17; refine (works_any _).mono ?_; rintro e w9 ⟨rfl, hb9⟩; have B9 := Lib.hid (hb0to B1.out hb9); clear hb9))
        go_ret
        exact ⟨rfl, hb0to HBW.out B9.out⟩
      · have hd2 : decide ((40 : Int) < (p.length : Int)) = false := decide_eq_false (by omega)
        have hl4 : c.length ≤ 1000 := by omega
        have hp4 : p.length ≤ 1000 := by omega
        have hS := SOK.ofValid hv
        have H25 := Lib.hid (fun W hW hI => rIsCrew_any L s hS c A cv hl4 hcv W hW hI)
        cases hc : crewB s c
        · rw [hc] at H25
          clear hv h40 hp40 hc hS
          as_aux_lemma =>
          obtain ⟨Ap, cp, Ab, cb⟩ := L
          go_enter Try.func10, Try.ntmps10
          go_upto_region 1 with (fail)
          have e := HW0.out
          rw [e]
          clear e
          go_wp2_with (first
            | (go_at_call 16; refine (HR.out W0 HM.out.H).mono ?_; rintro e w1 ⟨rfl, hb1⟩; have M1 := Lib.hid (HM.out.next hb1); obtain ⟨r0, r1, r2, r3⟩ := M1.out.x.cells; have B1 := Lib.hid hb1; clear hb1)
            | (go_at_call 25; refine (H25.out w1 M1.out.H M1.out.i).mono ?_; rintro e w2 ⟨rfl, hb⟩; have M2 := Lib.hid (M1.out.next hb); obtain ⟨s0, s1, s2, s3⟩ := M2.out.x.cells; have B2 := Lib.hid (hb0to B1.out hb); clear hb)
            | (go_at_call 17; refine (works_any _).mono ?_; rintro e w9 ⟨rfl, hb9⟩; have B9 := Lib.hid (hb0to B2.out hb9); clear hb9))
          go_ret
          exact ⟨rfl, hb0to HBW.out B9.out⟩
        · rw [hc] at H25
          have hcr := crewB_iff.1 hc
          have H30 := Lib.hid (fun W hW hI => areParts_any L s hS p A2 cw hp4 W hW hI)
          cases hpb : partsB s p
          · rw [hpb] at H30
            clear hv h40 hp40 hc hcr hpb hS
            as_aux_lemma =>
            obtain ⟨Ap, cp, Ab, cb⟩ := L
            go_enter Try.func10, Try.ntmps10
            go_upto_region 1 with (fail)
            have e := HW0.out
            rw [e]
            clear e
            go_wp2_with (first
              | (go_at_call 16; refine (HR.out W0 HM.out.H).mono ?_; rintro e w1 ⟨rfl, hb1⟩; have M1 := Lib.hid (HM.out.next hb1); obtain ⟨r0, r1, r2, r3⟩ := M1.out.x.cells; have B1 := Lib.hid hb1; clear hb1)
              | (go_at_call 25; refine (H25.out w1 M1.out.H M1.out.i).mono ?_; rintro e w2 ⟨rfl, hb⟩; have M2 := Lib.hid (M1.out.next hb); obtain ⟨s0, s1, s2, s3⟩ := M2.out.x.cells; have B2 := Lib.hid (hb0to B1.out hb); clear hb)
              | (go_at_call 30; refine (H30.out w2 M2.out.H M2.out.j).mono ?_; rintro e w3 ⟨rfl, hb⟩; have M3 := Lib.hid (M2.out.next hb); obtain ⟨t0, t1, t2, t3⟩ := M3.out.x.cells; have B3 := Lib.hid (hb0to B2.out hb); clear hb)
              | (go_at_call 17; refine (works_any _).mono ?_; rintro e w9 ⟨rfl, hb9⟩; have B9 := Lib.hid (hb0to B3.out hb9); clear hb9))
            go_ret
            exact ⟨rfl, hb0to HBW.out B9.out⟩
          · rw [hpb] at H30
            have hpt := partsB_iff.1 hpb
            have H27 := Lib.hid (fun W hW hI => canW_any L s hv c A cv HA.out hl4 W hW hI)
            rw [canW_crew hc] at H27
            have H49 := Lib.hid (fun A2 c2 W hW hI => First_any L s c A2 c2 hl4 W hW hI)
            rw [first_ret hv hc] at H49
            have hlb := lift_bd hS hcr
            have hcl := hcr.1
            have hpln := hpt.len
            have hpl := hS.pl
            have hbl := hS.bl
            have H31 := Lib.hid (fun L' W hW hI hJ => rOver_any L' s hS c p (liftS s c) A A2 cv cw hl4 (by omega) hp4 hcr.2.1 (by omega) (parts_bd hS hpt) W hW hI hJ)
            rw [lift_over hS hcr hpt hlb.1 hlb.2 (Int.le_refl _)] at H31
            have hn0 : decide (liftS s c < 0) = false := decide_eq_false (by omega)
            by_cases h20 : liftS s c = 2000
            · have hdn : (liftS s c == 2000) = true := by simpa using h20
              rw [first_none h20] at H49
              generalize liftS s c = n at H27 H31 hn0 hdn
              clear hv h40 hp40 hc hcr hpb hS hpt hlb h20 hcl hpln
              as_aux_lemma =>
              obtain ⟨Ap, cp, Ab, cb⟩ := L
              go_enter Try.func10, Try.ntmps10
              go_upto_region 1 with (fail)
              have e := HW0.out
              rw [e]
              clear e
              go_upto_region 4 with (first
                | (go_at_call 16; refine (HR.out W0 HM.out.H).mono ?_; rintro e w1 ⟨rfl, hb1⟩; have M1 := Lib.hid (HM.out.next hb1); obtain ⟨r0, r1, r2, r3⟩ := M1.out.x.cells; have B1 := Lib.hid hb1; clear hb1)
                | (go_at_call 25; refine (H25.out w1 M1.out.H M1.out.i).mono ?_; rintro e w2 ⟨rfl, hb⟩; have M2 := Lib.hid (M1.out.next hb); obtain ⟨s0, s1, s2, s3⟩ := M2.out.x.cells; have B2 := Lib.hid (hb0to B1.out hb); clear hb)
                | (go_at_call 30; refine (H30.out w2 M2.out.H M2.out.j).mono ?_; rintro e w3 ⟨rfl, hb⟩; have M3 := Lib.hid (M2.out.next hb); obtain ⟨t0, t1, t2, t3⟩ := M3.out.x.cells; have B3 := Lib.hid (hb0to B2.out hb); clear hb)
                | (go_at_call 27; refine (H27.out w3 M3.out.H M3.out.i).mono ?_; rintro e w4 ⟨rfl, hb⟩; have M4 := Lib.hid (M3.out.next hb); obtain ⟨u0, u1, u2, u3⟩ := M4.out.x.cells; have B4 := Lib.hid (hb0to B3.out hb); clear hb))
              have HI0 := Lib.hid (ints_made w4 w4.heap.size (Nat.le_refl _))
              go_cut [8, 9] (fun s8 s9 wx => s8 = .int .i64 0 ∧ s9 = .int .i64 3 ∧ Hid (Below w4.heap.size w4 wx))
              case first =>
                go_region_held3 (fun w' => w'.cell? ⟨w.heap.size, 0, none⟩ = some (.int .i64 s.wl) ∧ w'.cell? ⟨w.heap.size, 1, none⟩ = some (.int .i64 s.wh) ∧ w'.cell? ⟨w.heap.size, 2, none⟩ = some (.slice Ap s.ps.length cp) ∧ w'.cell? ⟨w.heap.size, 3, none⟩ = some (.slice Ab s.bs.length cb)) (first | go_keep)
                  (first
                    | (refine step_copyI (by rfl) (.tmp 44) (.tmp 45) (by rfl) w4.heap.size _ [] (by rfl) (show Ints (w4.alloc (.cells #[] 3)).drew w4.heap.size _ [] from HI0.out) A cv c HA.out (by rfl) (ints_later M4.out.i (al_below w4 (.cells #[] 3)).drew) (by simp) (by omega) (by simp) ?_; intro v5 w5 h1 h2; have B5 := Lib.hid ((al_below w4 (.cells #[] 3)).drew.trans h2); obtain ⟨A5, c5, rfl, -, -, hA5⟩ := (show Ints w5 w4.heap.size v5 c from h1).lay; have I5 := Lib.hid hA5.at_; have M5 := Lib.hid (M4.out.next B5.out); obtain ⟨y0, y1, y2, y3⟩ := M5.out.x.cells; clear h1 h2 hA5)
                    | (go_at_call 49; refine (H49.out A5 c5 w5 M5.out.H I5.out).mono ?_; rintro e w6 ⟨rfl, hb⟩; have B6 := Lib.hid (hb0to B5.out hb); have M6 := Lib.hid (M5.out.next hb); obtain ⟨z0, z1, z2, z3⟩ := M6.out.x.cells; clear hb))
                all_goals
                  go_wp2_with (fail)
                  go_meet
                  exact ⟨rfl, rfl, B6⟩
              case' rest =>
                obtain ⟨rfl, rfl, hb5⟩ := hcut
                obtain ⟨w5, rfl⟩ : ∃ x : World, x = wc := ⟨_, rfl⟩
                have M5 := Lib.hid (M4.out.next hb5.out)
                have B5 := Lib.hid (hb0to B4.out hb5.out)
                clear r0 r1 r2 r3 s0 s1 s2 s3 t0 t1 t2 t3 u0 u1 u2 u3 c0 c1 c2 c3
                obtain ⟨s0, s1, s2, s3⟩ := M5.out.x.cells
              go_wp2_with (first
                | (go_at_call 20; refine (known_any _ _).mono ?_; rintro e w' ⟨rfl, rfl⟩)
                | (go_at_call 31; refine (H31.out _ w5 M5.out.H M5.out.i M5.out.j).mono ?_; rintro e w6 ⟨rfl, hb⟩; have M6 := Lib.hid (M5.out.next hb); obtain ⟨y0, y1, y2, y3⟩ := M6.out.x.cells; have B6 := Lib.hid (hb0to B5.out hb); clear hb)
                | (go_at_call 17; refine (works_any _).mono ?_; rintro e w9 ⟨rfl, hb9⟩; have B9 := Lib.hid (hb0to B6.out hb9); clear hb9))
              go_ret
              exact ⟨rfl, hb0to HBW.out B9.out⟩
            · have hdn : (liftS s c == 2000) = false := by simpa using h20
              obtain ⟨k, j, k1, k2, k3, k4⟩ := first_at h20
              rw [k1] at H49
              have hkc := (List.getElem?_eq_some_iff.1 k2).1
              have hkp : k < s.ps.length := by omega
              have H39 := Lib.hid (fun W => rIsPlace_any L s k W (by omega))
              rw [inR_true.2 (show (0 : Int) ≤ k ∧ (k : Int) ≤ s.ps.length - 1 by omega)] at H39
              have H46 := Lib.hid (fun W hW => Share_any L s (by omega) k W hW)
              rw [share_ret hv hkp] at H46
              have hsb := shares_bd hS hkp
              have hno := first_over hS hcr h20 k2 k3
              have HBF := Lib.hid (fun (i : Nat) (x v : Int) (hi : i < k) (hx : c[i]? = some x) (hvv : p[i]? = some v) => first_before hS hcr hpt h20 hx hvv (k4 i x hi hx))
              have HCR := Lib.hid hcr
              have HS := Lib.hid hS
              have HPB := Lib.hid (parts_bd hS hpt)
              have HJ := Lib.hid k2
              generalize liftS s c = n at H27 H31 hn0 hdn hno HBF hlb
              generalize shares s k = sh at H46 hsb hno
              have hdk : (k : Int) < c.length := by omega
              have hs1 : decide (sh.2 < 0) = false := decide_eq_false (by omega)
              have hs2 : decide ((12 : Int) < sh.2) = false := decide_eq_false (by omega)
              have n0 := hlb.1
              have n1 := hlb.2
              have HCL := Lib.hid (And.intro hcl hpln)
              have hkk : k < p.length := by omega
              clear hv h40 hp40 hc hcr hpb hpt hlb h20 k1 k2 k3 k4 hS hcl hpln
              as_aux_lemma =>
              obtain ⟨Ap, cp, Ab, cb⟩ := L
              go_enter Try.func10, Try.ntmps10
              go_upto_region 1 with (fail)
              have e := HW0.out
              rw [e]
              clear e
              go_upto_region 4 with (first
                | (go_at_call 16; refine (HR.out W0 HM.out.H).mono ?_; rintro e w1 ⟨rfl, hb1⟩; have M1 := Lib.hid (HM.out.next hb1); obtain ⟨r0, r1, r2, r3⟩ := M1.out.x.cells; have B1 := Lib.hid hb1; clear hb1)
                | (go_at_call 25; refine (H25.out w1 M1.out.H M1.out.i).mono ?_; rintro e w2 ⟨rfl, hb⟩; have M2 := Lib.hid (M1.out.next hb); obtain ⟨s0, s1, s2, s3⟩ := M2.out.x.cells; have B2 := Lib.hid (hb0to B1.out hb); clear hb)
                | (go_at_call 30; refine (H30.out w2 M2.out.H M2.out.j).mono ?_; rintro e w3 ⟨rfl, hb⟩; have M3 := Lib.hid (M2.out.next hb); obtain ⟨t0, t1, t2, t3⟩ := M3.out.x.cells; have B3 := Lib.hid (hb0to B2.out hb); clear hb)
                | (go_at_call 27; refine (H27.out w3 M3.out.H M3.out.i).mono ?_; rintro e w4 ⟨rfl, hb⟩; have M4 := Lib.hid (M3.out.next hb); obtain ⟨u0, u1, u2, u3⟩ := M4.out.x.cells; have B4 := Lib.hid (hb0to B3.out hb); clear hb))
              have HI0 := Lib.hid (ints_made w4 w4.heap.size (Nat.le_refl _))
              go_cut [8, 9] (fun s8 s9 wx => s8 = .int .i64 (k : Int) ∧ s9 = .int .i64 0 ∧ Hid (Below w4.heap.size w4 wx))
              case first =>
                go_region_held3 (fun w' => w'.cell? ⟨w.heap.size, 0, none⟩ = some (.int .i64 s.wl) ∧ w'.cell? ⟨w.heap.size, 1, none⟩ = some (.int .i64 s.wh) ∧ w'.cell? ⟨w.heap.size, 2, none⟩ = some (.slice Ap s.ps.length cp) ∧ w'.cell? ⟨w.heap.size, 3, none⟩ = some (.slice Ab s.bs.length cb)) (first | go_keep)
                  (first
                    | (refine step_copyI (by rfl) (.tmp 44) (.tmp 45) (by rfl) w4.heap.size _ [] (by rfl) (show Ints (w4.alloc (.cells #[] 3)).drew w4.heap.size _ [] from HI0.out) A cv c HA.out (by rfl) (ints_later M4.out.i (al_below w4 (.cells #[] 3)).drew) (by simp) (by omega) (by simp) ?_; intro v5 w5 h1 h2; have B5 := Lib.hid ((al_below w4 (.cells #[] 3)).drew.trans h2); obtain ⟨A5, c5, rfl, -, -, hA5⟩ := (show Ints w5 w4.heap.size v5 c from h1).lay; have I5 := Lib.hid hA5.at_; have M5 := Lib.hid (M4.out.next B5.out); obtain ⟨y0, y1, y2, y3⟩ := M5.out.x.cells; clear h1 h2 hA5)
                    | (go_at_call 49; refine (H49.out A5 c5 w5 M5.out.H I5.out).mono ?_; rintro e w6 ⟨rfl, hb⟩; have B6 := Lib.hid (hb0to B5.out hb); have M6 := Lib.hid (M5.out.next hb); obtain ⟨z0, z1, z2, z3⟩ := M6.out.x.cells; clear hb))
                all_goals
                  go_wp2_with (fail)
                  go_meet
                  exact ⟨rfl, rfl, B6⟩
              case' rest =>
                obtain ⟨rfl, rfl, hb5⟩ := hcut
                obtain ⟨w5, rfl⟩ : ∃ x : World, x = wc := ⟨_, rfl⟩
                have M5 := Lib.hid (M4.out.next hb5.out)
                have B5 := Lib.hid (hb0to B4.out hb5.out)
                clear r0 r1 r2 r3 s0 s1 s2 s3 t0 t1 t2 t3 u0 u1 u2 u3 c0 c1 c2 c3
                obtain ⟨s0, s1, s2, s3⟩ := M5.out.x.cells
              go_upto_region 12 with (first
                | (go_at_call 20; refine (known_any _ _).mono ?_; rintro e w' ⟨rfl, rfl⟩)
                | (go_at_call 31; refine (H31.out _ w5 M5.out.H M5.out.i M5.out.j).mono ?_; rintro e w6 ⟨rfl, hb⟩; have M6 := Lib.hid (M5.out.next hb); obtain ⟨y0, y1, y2, y3⟩ := M6.out.x.cells; have B6 := Lib.hid (hb0to B5.out hb); clear hb)
                | (go_at_call 39; refine (H39.out w6).mono ?_; rintro e w7 ⟨rfl, hb⟩; have M7 := Lib.hid (M6.out.next hb); obtain ⟨z0, z1, z2, z3⟩ := M7.out.x.cells; have B7 := Lib.hid (hb0to B6.out hb); clear hb)
                | (go_at_call 46; refine (H46.out w7 M7.out.H).mono ?_; rintro e w8 ⟨rfl, hb⟩; have M8 := Lib.hid ((M7.out.next hb).next (al_below w8 (.cells #[.int .i64 sh.1, .int .i64 sh.2] 23))); have P8 := Lib.hid (show PairBox _ w8.heap.size sh from heap_new1 w8 (.cells #[.int .i64 sh.1, .int .i64 sh.2] 23)); obtain ⟨g0, g1, g2, g3⟩ := M8.out.x.cells; obtain ⟨d0, d1⟩ := P8.out.cells; have B8 := Lib.hid (hb0to (hb0to B7.out hb) (al_below w8 (.cells #[.int .i64 sh.1, .int .i64 sh.2] 23))); clear hb))
              obtain ⟨W8, hW8⟩ : ∃ W8, w8.alloc (.cells #[.int .i64 sh.1, .int .i64 sh.2] 23) = W8 := ⟨_, rfl⟩
              rw [hW8] at M8 P8 B8 d0 d1 g0 g1 g2 g3 ⊢
              clear hW8 s0 s1 s2 s3 y0 y1 y2 y3 z0 z1 z2 z3
              obtain ⟨j0, j1⟩ := HCR.out.2.1 j (List.mem_of_getElem? HJ.out)
              obtain ⟨jn, rfl⟩ : ∃ jn : Nat, j = jn := ⟨j.toNat, by omega⟩
              obtain ⟨z, hz, z0, z1, _, _⟩ := boat_at HS.out (show jn < s.bs.length by omega)
              obtain ⟨bi, oi, eA, blt, q1⟩ := M8.out.i.at_ HJ.out
              obtain ⟨bb, ob, eB, blt2, q2, _⟩ := M8.out.H.b.at_ hz
              simp only at eB
              rw [Int.toNat_natCast, (boat_eq hz).1] at hno
              obtain ⟨x1, x2⟩ := z
              simp only at hno q2 z0 z1
              have g3' := g3
              rw [eB] at g3'
              have ex1 := extB_cell q1
              have ex2 := extB_cell q2
              have ex3 := extB_cell g3'
              have ex4 := extB_cell d1
              have HA0 := Lib.hid eA
              have hjb : jn < s.bs.length := by omega
              have hm0 : 0 ≤ (n + 1) * sh.2 := Int.mul_nonneg (by omega) (by omega)
              have hm1 : (n + 1) * sh.2 ≤ 2001 * 12 := Int.mul_le_mul (by omega) (by omega) (by omega) (by omega)
              have hw0 : IntKind.i64.wrap (n + 1) = n + 1 := IntWalk.i64_in _ (by omega)
              have hw1 : IntKind.i64.wrap ((n + 1) * sh.2) = (n + 1) * sh.2 := IntWalk.i64_in _ (by omega)
              have hw2 : IntKind.i64.wrap (12 * x1) = 12 * x1 := IntWalk.i64_in _ (by omega)
              have hdl : decide ((n + 1) * sh.2 ≤ 12 * x1) = false := decide_eq_false (by omega)
              clear hz q1 q2 g0 g1 g2 g3 g3' hm0 hm1 hno d0 d1
              subst eA
              as_aux_lemma =>
              refine wp_region_extW (by kernel_rfl) (by kernel_rfl) ?_
              repeat (go_big_quiet_step (fail))
              refine wpQuiet_nil ?_
              rintro _ ⟨y1, rfl⟩
              have M9 := Lib.hid (M8.out.next (extB_below W8 y1))
              have B9' := Lib.hid (hb0to B8.out (extB_below W8 y1))
              clear M8 B8 ex1 ex2 ex3 ex4 hw1 hw2 hdl
              go_wp2_with (fail)
              obtain ⟨X9, hX9⟩ : ∃ X9, extB W8 y1 = X9 := ⟨_, rfl⟩
              rw [hX9] at M9 B9' ⊢
              clear hX9
              go_loopw [12] (fun i wr => ∃ m : Nat, m ≤ k ∧ i = .int .i64 m ∧ Hid (Below X9.heap.size X9 wr)) (fun i _ => k - (intOf i).toNat)
              case atStart => exact ⟨0, Nat.zero_le _, rfl, Lib.hid (Below.refl _ _)⟩
              case round =>
                obtain ⟨m, hm, rfl, hb⟩ := hrel
                by_cases hlt : m < k
                · have M := M9.out.next hb.out
                  obtain ⟨x, hx⟩ : ∃ x, c[m]? = some x := ⟨_, List.getElem?_eq_getElem (by omega)⟩
                  obtain ⟨v, hv⟩ : ∃ v, p[m]? = some v := ⟨_, List.getElem?_eq_getElem (by omega)⟩
                  obtain ⟨u0, u1⟩ := HCR.out.2.1 x (List.mem_of_getElem? hx)
                  obtain ⟨v0, v1⟩ := HPB.out v (List.mem_of_getElem? hv)
                  have hle := HBF.out m x v hlt hx hv
                  obtain ⟨xn, rfl⟩ : ∃ xn : Nat, x = xn := ⟨x.toNat, by omega⟩
                  obtain ⟨z, hz, z0', z1', _, _⟩ := boat_at HS.out (show xn < s.bs.length by omega)
                  rw [Int.toNat_natCast, (boat_eq hz).1] at hle
                  obtain ⟨_, _, e1, _, q1⟩ := M.i.at_ hx
                  cases e1
                  obtain ⟨bp, op, eP, _, q2⟩ := M.j.at_ hv
                  obtain ⟨_, _, e3, _, q3, _⟩ := M.H.b.at_ hz
                  simp only at e3
                  rw [eB] at e3
                  cases e3
                  obtain ⟨g0, g1, g2, g3⟩ := M.x.cells
                  rw [eB] at g3
                  obtain ⟨t1, t2⟩ := z
                  simp only at hle q3 z0' z1'
                  have ex1 := extB_cell q1
                  have ex2 := extB_cell q2
                  have ex3 := extB_cell q3
                  have ex4 := extB_cell g3
                  have hmc : m < c.length := by omega
                  have hmp : m < p.length := by omega
                  have hjx : xn < s.bs.length := by omega
                  have hm0 : 0 ≤ (n + 1) * v := Int.mul_nonneg (by omega) (by omega)
                  have hm1 : (n + 1) * v ≤ 2001 * 12 := Int.mul_le_mul (by omega) (by omega) (by omega) (by omega)
                  have hw1 : IntKind.i64.wrap ((n + 1) * v) = (n + 1) * v := IntWalk.i64_in _ (by omega)
                  have hw2 : IntKind.i64.wrap (12 * t1) = 12 * t1 := IntWalk.i64_in _ (by omega)
                  have hdl : decide (12 * t1 < (n + 1) * v) = false := decide_eq_false (by omega)
                  clear hx hv hz q1 q2 q3 g0 g1 g2 g3 hm0 hm1 hle M
                  subst eP
                  as_aux_lemma =>
                  go_upto_region 17 with (fail)
                  refine wp_region_extW (by kernel_rfl) (by kernel_rfl) ?_
                  repeat (go_big_quiet_step (fail))
                  refine wpQuiet_nil ?_
                  rintro _ ⟨y2, rfl⟩
                  have hb3 := hb0to hb.out (extB_below wr y2)
                  go_wp2_with (fail)
                  go_roundw
                  case rel => exact ⟨m + 1, by omega, by go_num, Lib.hid hb3⟩
                  case measure => simp [intOf]; omega
                · obtain rfl : m = k := by omega
                  have Bb := Lib.hid (hb0to B9'.out hb.out)
                  as_aux_lemma =>
                  go_wp2_with ((go_at_call 17; refine (works_any _).mono ?_; rintro e w9 ⟨rfl, hb9⟩; have B9 := Lib.hid (hb0to Bb.out hb9); clear hb9))
                  go_ret
                  exact ⟨rfl, hb0to HBW.out B9.out⟩
end Go.Proofs.Ytgjpllmmpclgaaa
