import Derived.Test.YtgjpllmmpclgaaaM6
import Derived.Test.YtgjpllmmpclgaaaG3
namespace Go.Proofs.Ytgjpllmmpclgaaa
open Go.RowKit

/-! LiftsChosen. -/
set_option maxRecDepth 100000 in
set_option maxHeartbeats 4000000 in
theorem chosen_law (L : SL) (s : Sea) (A : Option Addr) (cv : Nat) (c : List Int) (hcv : c.length ≤ cv) (w : World) (hH : SeaAt w w.heap.size L s) (hI : IntsAt w w.heap.size A c) : Calls Try.prog 5 #[L.enc s, .slice A c.length cv] w fun e w' => e = .returned (.bool true) ∧ Below w.heap.size w w' := by
  have hbw := al_below w (.cells #[.int .i64 s.wl, .int .i64 s.wh, .slice L.Ap s.ps.length L.cp, .slice L.Ab s.bs.length L.cb] 27)
  have HB := Lib.hid (SBox.new w L s)
  obtain ⟨c0, c1, c2, c3⟩ := (SBox.new w L s).cells
  obtain ⟨W0, hW0⟩ : ∃ W0, w.alloc (.cells #[.int .i64 s.wl, .int .i64 s.wh, .slice L.Ap s.ps.length L.cp, .slice L.Ab s.bs.length L.cb] 27) = W0 := ⟨_, rfl⟩
  rw [hW0] at hbw HB c0 c1 c2 c3
  have HBW := Lib.hid hbw
  have HW0 := Lib.hid hW0
  have HM := Lib.hid (SIn.mk (hH.below hbw) HB.out (ints_later hI hbw))
  have HR := Lib.hid (fun W hW => ready_any L s W hW)
  clear hbw hW0 hH hI
  cases hv : validS s
  · rw [hv] at HR
    clear hv
    as_aux_lemma =>
    obtain ⟨Ap, cp, Ab, cb⟩ := L
    go_enter Try.func5, Try.ntmps5
    go_upto_region 1 with (fail)
    have e := HW0.out
    rw [e]
    clear e
    go_wp2_with (first
      | (go_at_call 16; refine (HR.out W0 HM.out.H).mono ?_; rintro e w1 ⟨rfl, hb1⟩; have M1 := Lib.hid (HM.out.next hb1); obtain ⟨r0, r1, r2, r3⟩ := M1.out.x.cells; have B1 := Lib.hid hb1; clear hb1)
      | (go_at_call 17; refine (works_any _).mono ?_; rintro e w9 ⟨rfl, hb9⟩; have B9 := Lib.hid (hb0to B1.out hb9); clear hb9))
    go_ret
    exact ⟨rfl, hb0to HBW.out B9.out⟩
  · rw [hv] at HR
    have hS := SOK.ofValid hv
    have hpl := hS.pl
    have hbl := hS.bl
    have H32a := Lib.hid (fun W hW => Crew_any L s W hW)
    have H33 := Lib.hid (fun W hW => Cheap_any L s W hW)
    have H34 := Lib.hid (fun W hW => mostW_any L s hv W hW)
    have H18a := Lib.hid (fun W hW => Short_any L s W hW)
    have H19 := Lib.hid (fun W hW => needs_any L s hv W hW)
    have hqs := short_ret hv
    have hcm := cheap_most hS
    have hcs := cheap_short hS
    have h0 := askS_true hv
    have hnl := needsL_len s
    have H29 := Lib.hid (fun (q : List Int) (hq : CrewOf s.bs.length s.ps.length q) Ax cx B cw L' W hW hI hJ => rFits_any L' s hS q (needsL s) Ax B cx cw (by have := hq.1; omega) (by have := hq.1; omega) (by omega) hq.2.1 W hW hI hJ)
    rw [hnl] at H29
    have H25 := Lib.hid (fun (q : List Int) Ax cx hq hcx L' W hW hI => rIsCrew_any L' s hS q Ax cx hq hcx W hW hI)
    have H35 := Lib.hid (fun (q : List Int) (hq : CrewOf s.bs.length s.ps.length q) Ax cx L' W hW hI => rCost_any L' s hS q Ax cx (by have := hq.1; omega) hq.2.1 W hW hI)
    cases hch : cheapS s with
    | none =>
      have hml := hcm.1 hch
      have hsn := hcs.1 hch
      have HNO := Lib.hid (cheap_none.1 hch)
      have hr32 : crewRet s = ([], 3) := by unfold crewRet; rw [h0, hch]; simp
      have hr33 : cheapRet s = (0, 3) := by unfold cheapRet; rw [h0, hch]; simp
      rw [hr32] at H32a
      rw [hr33] at H33
      have hr18 : shortRet s = (shortS s, 0) := by rw [hqs]; unfold shortOf; rw [if_neg hsn]
      rw [hr18] at H18a
      have H18 := Lib.hid (fun W hW => show Calls Try.prog 18 #[L.enc s] W fun e w' => (∃ A cp, e = .returned (.tuple #[.slice A (shortS s).length cp, .int .i64 0])) ∧ Below W.heap.size W w' from (H18a.out W hW).mono fun _ _ ⟨⟨A, cp, he, _⟩, hb⟩ => ⟨⟨A, cp, he⟩, hb⟩)
      generalize (shortS s).length = sn at H18
      have hdm : decide (s.wh ≤ mostS s) = false := decide_eq_false (by omega)
      generalize mostS s = m at H34 hdm
      have H32 := Lib.hid (fun W hW => show Calls Try.prog 32 #[L.enc s] W fun e w' => (∃ A cp, e = .returned (.tuple #[.slice A 0 cp, .int .i64 3]) ∧ IntsAt w' w'.heap.size A [] ∧ 0 ≤ cp) ∧ Below W.heap.size W w' from (H32a.out W hW).mono fun _ _ ⟨⟨A, cp, he, hI, hc⟩, hb⟩ => ⟨⟨A, cp, he, hI.ints, hc⟩, hb⟩)
      clear hqs hcm hcs h0 hml hsn hr32 hr33 hr18 H18a hch H32a
      as_aux_lemma =>
      obtain ⟨Ap, cp, Ab, cb⟩ := L
      go_enter Try.func5, Try.ntmps5
      go_upto_region 1 with (fail)
      have e := HW0.out
      rw [e]
      clear e
      go_upto_region 14 with (first
        | (go_at_call 16; refine (HR.out W0 HM.out.H).mono ?_; rintro e w1 ⟨rfl, hb1⟩; have M1 := Lib.hid (HM.out.next hb1); obtain ⟨r0, r1, r2, r3⟩ := M1.out.x.cells; have B1 := Lib.hid hb1; clear hb1)
        | (go_at_call 32; refine (H32.out w1 M1.out.H).mono ?_; rintro e w2 ⟨⟨A5, c5, rfl, hA5, hcap⟩, hb⟩; have M2 := Lib.hid (M1.out.next hb); obtain ⟨s0, s1, s2, s3⟩ := M2.out.x.cells; have B2 := Lib.hid (hb0to B1.out hb); have I5 := Lib.hid hA5; have HCAP := Lib.hid hcap; clear hb hA5 hcap)
        | (go_at_call 33; refine (H33.out w2 M2.out.H).mono ?_; rintro e w3 ⟨rfl, hb⟩; have M3 := Lib.hid (M2.out.next hb); obtain ⟨t0, t1, t2, t3⟩ := M3.out.x.cells; have B3 := Lib.hid (hb0to B2.out hb); have I53 := Lib.hid (ints_later I5.out hb); clear hb)
        | (go_at_call 34; refine (H34.out w3 M3.out.H).mono ?_; rintro e w4 ⟨rfl, hb⟩; have M4 := Lib.hid (M3.out.next hb); obtain ⟨u0, u1, u2, u3⟩ := M4.out.x.cells; have B4 := Lib.hid (hb0to B3.out hb); have I54 := Lib.hid (ints_later I53.out hb); clear hb)
        | (go_at_call 18; refine (H18.out w4 M4.out.H).mono ?_; rintro e w5 ⟨⟨A6, c6, rfl⟩, hb⟩; have M5 := Lib.hid (M4.out.next hb); obtain ⟨v0, v1, v2, v3⟩ := M5.out.x.cells; have B5 := Lib.hid (hb0to B4.out hb); have I55 := Lib.hid (ints_later I54.out hb); clear hb)
        | (go_at_call 20; refine (known_any _ _).mono ?_; rintro e w' ⟨rfl, rfl⟩)
        | (go_at_call 19; refine (H19.out w5 M5.out.H).mono ?_; rintro e w6 ⟨⟨A7, c7, rfl, hA7⟩, hb⟩; have M6 := Lib.hid (M5.out.next hb); obtain ⟨x0, x1, x2, x3⟩ := M6.out.x.cells; have B6 := Lib.hid (hb0to B5.out hb); have I56 := Lib.hid (ints_later I55.out hb); have I76 := Lib.hid hA7.ints; clear hb hA7))
      clear r0 r1 r2 r3 s0 s1 s2 s3 t0 t1 t2 t3 u0 u1 u2 u3 v0 v1 v2 v3 c0 c1 c2 c3
      by_cases h40 : 40 < c.length
      · have hd : decide ((40 : Int) < (c.length : Int)) = true := decide_eq_true (by omega)
        clear h40 hv hS
        as_aux_lemma =>
        go_wp2_with ((go_at_call 17; refine (works_any _).mono ?_; rintro e w9 ⟨rfl, hb9⟩; have B9 := Lib.hid (hb0to B6.out hb9); clear hb9))
        go_ret
        exact ⟨rfl, hb0to HBW.out B9.out⟩
      · have hd : decide ((40 : Int) < (c.length : Int)) = false := decide_eq_false (by omega)
        have H25c := Lib.hid (fun L' W hW hI => H25.out c A cv (by omega) hcv L' W hW hI)
        cases hc : crewB s c
        · rw [hc] at H25c
          clear h40 hv hS hc
          as_aux_lemma =>
          go_wp2_with (first
            | (go_at_call 25; refine (H25c.out _ w6 M6.out.H M6.out.i).mono ?_; rintro e w7 ⟨rfl, hb⟩; have M7 := Lib.hid (M6.out.next hb); obtain ⟨h0, h1, h2, h3⟩ := M7.out.x.cells; have B7 := Lib.hid (hb0to B6.out hb); have I77 := Lib.hid (ints_later I76.out hb); clear hb)
            | (go_at_call 17; refine (works_any _).mono ?_; rintro e w9 ⟨rfl, hb9⟩; have B9 := Lib.hid (hb0to B7.out hb9); clear hb9))
          go_ret
          exact ⟨rfl, hb0to HBW.out B9.out⟩
        · rw [hc] at H25c
          have hcr := crewB_iff.1 hc
          have H29c := Lib.hid (fun Ax cx B cw L' W hW hI hJ => H29.out c hcr Ax cx B cw L' W hW hI hJ)
          rw [fits_safe hcr.1, HNO.out c hcr] at H29c
          clear h40 hv hS hc hcr
          as_aux_lemma =>
          go_wp2_with (first
            | (go_at_call 25; refine (H25c.out _ w6 M6.out.H M6.out.i).mono ?_; rintro e w7 ⟨rfl, hb⟩; have M7 := Lib.hid (M6.out.next hb); obtain ⟨h0, h1, h2, h3⟩ := M7.out.x.cells; have B7 := Lib.hid (hb0to B6.out hb); have I77 := Lib.hid (ints_later I76.out hb); clear hb)
            | (go_at_call 29; refine (H29c.out A cv A7 c7 _ w7 M7.out.H M7.out.i I77.out).mono ?_; rintro e w8 ⟨rfl, hb⟩; have M8 := Lib.hid (M7.out.next hb); obtain ⟨k0, k1, k2, k3⟩ := M8.out.x.cells; have B8 := Lib.hid (hb0to B7.out hb); clear hb)
            | (go_at_call 17; refine (works_any _).mono ?_; rintro e w9 ⟨rfl, hb9⟩; have B9 := Lib.hid (hb0to B8.out hb9); clear hb9))
          go_ret
          exact ⟨rfl, hb0to HBW.out B9.out⟩
    | some cn =>
      obtain ⟨q, n⟩ := cn
      have hsn : shortS s = [] := Classical.byContradiction fun h => by have := hcs.2 h; rw [hch] at this; cases this
      have hml : s.wh ≤ mostS s := Int.not_lt.1 fun h => by have := hcm.2 h; rw [hch] at this; cases this
      obtain ⟨q1, q2, q3, q4⟩ := cheap_is hch
      have hr32 : crewRet s = (q, 0) := by unfold crewRet; rw [h0, hch]; simp
      have hr33 : cheapRet s = (n, 0) := by unfold cheapRet; rw [h0, hch]; simp
      rw [hr32] at H32a
      rw [hr33] at H33
      have hr18 : shortRet s = ([], 3) := by rw [hqs, hsn]; rfl
      rw [hr18] at H18a
      have H18 := Lib.hid (fun W hW => show Calls Try.prog 18 #[L.enc s] W fun e w' => (∃ A cp, e = .returned (.tuple #[.slice A 0 cp, .int .i64 3])) ∧ Below W.heap.size W w' from (H18a.out W hW).mono fun _ _ ⟨⟨A, cp, he, _⟩, hb⟩ => ⟨⟨A, cp, he⟩, hb⟩)
      have hdm : decide (s.wh ≤ mostS s) = true := decide_eq_true hml
      generalize mostS s = m at H34 hdm
      have H32 := Lib.hid (fun W hW => show Calls Try.prog 32 #[L.enc s] W fun e w' => (∃ A cp, e = .returned (.tuple #[.slice A q.length cp, .int .i64 0]) ∧ IntsAt w' w'.heap.size A q ∧ q.length ≤ cp) ∧ Below W.heap.size W w' from (H32a.out W hW).mono fun _ _ ⟨⟨A, cp, he, hI, hc⟩, hb⟩ => ⟨⟨A, cp, he, hI.ints, hc⟩, hb⟩)
      have hql : ((q.length : Int) != (s.ps.length : Int)) = false := by simp [q1.1]
      have H25q := Lib.hid (fun Ax cx hcx W hW hI => H25.out q Ax cx (by have := q1.1; omega) hcx L W hW hI)
      rw [crewB_iff.2 q1] at H25q
      have H29q := Lib.hid (fun Ax cx B cw W hW hI hJ => H29.out q q1 Ax cx B cw L W hW hI hJ)
      rw [fits_safe q1.1, q2] at H29q
      have H35q := Lib.hid (fun Ax cx W hW hI => H35.out q q1 Ax cx L W hW hI)
      rw [← q3] at H35q
      have hqn : (n != n) = false := by simp
      have hq4 : q.length ≤ 1000 := by have := q1.1; omega
      have Q4 := Lib.hid q4
      clear hqs hcm hcs h0 hml hsn hr32 hr33 hr18 H18a hch H32a q2 q3 q1 q4
      as_aux_lemma =>
      obtain ⟨Ap, cp, Ab, cb⟩ := L
      go_enter Try.func5, Try.ntmps5
      go_upto_region 1 with (fail)
      have e := HW0.out
      rw [e]
      clear e
      go_upto_region 14 with (first
        | (go_at_call 16; refine (HR.out W0 HM.out.H).mono ?_; rintro e w1 ⟨rfl, hb1⟩; have M1 := Lib.hid (HM.out.next hb1); obtain ⟨r0, r1, r2, r3⟩ := M1.out.x.cells; have B1 := Lib.hid hb1; clear hb1)
        | (go_at_call 32; refine (H32.out w1 M1.out.H).mono ?_; rintro e w2 ⟨⟨A5, c5, rfl, hA5, hcap⟩, hb⟩; have M2 := Lib.hid (M1.out.next hb); obtain ⟨s0, s1, s2, s3⟩ := M2.out.x.cells; have B2 := Lib.hid (hb0to B1.out hb); have I5 := Lib.hid hA5; have HCAP := Lib.hid hcap; clear hb hA5 hcap)
        | (go_at_call 33; refine (H33.out w2 M2.out.H).mono ?_; rintro e w3 ⟨rfl, hb⟩; have M3 := Lib.hid (M2.out.next hb); obtain ⟨t0, t1, t2, t3⟩ := M3.out.x.cells; have B3 := Lib.hid (hb0to B2.out hb); have I53 := Lib.hid (ints_later I5.out hb); clear hb)
        | (go_at_call 34; refine (H34.out w3 M3.out.H).mono ?_; rintro e w4 ⟨rfl, hb⟩; have M4 := Lib.hid (M3.out.next hb); obtain ⟨u0, u1, u2, u3⟩ := M4.out.x.cells; have B4 := Lib.hid (hb0to B3.out hb); have I54 := Lib.hid (ints_later I53.out hb); clear hb)
        | (go_at_call 18; refine (H18.out w4 M4.out.H).mono ?_; rintro e w5 ⟨⟨A6, c6, rfl⟩, hb⟩; have M5 := Lib.hid (M4.out.next hb); obtain ⟨v0, v1, v2, v3⟩ := M5.out.x.cells; have B5 := Lib.hid (hb0to B4.out hb); have I55 := Lib.hid (ints_later I54.out hb); clear hb)
        | (go_at_call 20; refine (known_any _ _).mono ?_; rintro e w' ⟨rfl, rfl⟩)
        | (go_at_call 19; refine (H19.out w5 M5.out.H).mono ?_; rintro e w6 ⟨⟨A7, c7, rfl, hA7⟩, hb⟩; have M6 := Lib.hid (M5.out.next hb); obtain ⟨x0, x1, x2, x3⟩ := M6.out.x.cells; have B6 := Lib.hid (hb0to B5.out hb); have I56 := Lib.hid (ints_later I55.out hb); have I76 := Lib.hid hA7.ints; clear hb hA7)
        | (go_at_call 25; refine (H25q.out A5 c5 HCAP.out w6 M6.out.H I56.out).mono ?_; rintro e w7 ⟨rfl, hb⟩; have M7 := Lib.hid (M6.out.next hb); obtain ⟨y0, y1, y2, y3⟩ := M7.out.x.cells; have B7 := Lib.hid (hb0to B6.out hb); have I57 := Lib.hid (ints_later I56.out hb); have I77 := Lib.hid (ints_later I76.out hb); clear hb)
        | (go_at_call 29; refine (H29q.out A5 c5 A7 c7 w7 M7.out.H I57.out I77.out).mono ?_; rintro e w8 ⟨rfl, hb⟩; have M8 := Lib.hid (M7.out.next hb); obtain ⟨z0, z1, z2, z3⟩ := M8.out.x.cells; have B8 := Lib.hid (hb0to B7.out hb); have I58 := Lib.hid (ints_later I57.out hb); have I78 := Lib.hid (ints_later I77.out hb); clear hb)
        | (go_at_call 35; refine (H35q.out A5 c5 w8 M8.out.H I58.out).mono ?_; rintro e wa ⟨rfl, hb⟩; have Ma := Lib.hid (M8.out.next hb); obtain ⟨g0, g1, g2, g3⟩ := Ma.out.x.cells; have Ba := Lib.hid (hb0to B8.out hb); have I5a := Lib.hid (ints_later I58.out hb); have I7a := Lib.hid (ints_later I78.out hb); clear hb))
      clear r0 r1 r2 r3 s0 s1 s2 s3 t0 t1 t2 t3 u0 u1 u2 u3 v0 v1 v2 v3 x0 x1 x2 x3 y0 y1 y2 y3 z0 z1 z2 z3 c0 c1 c2 c3
      by_cases h40 : 40 < c.length
      · have hd : decide ((40 : Int) < (c.length : Int)) = true := decide_eq_true (by omega)
        clear h40 hv hS
        as_aux_lemma =>
        go_wp2_with ((go_at_call 17; refine (works_any _).mono ?_; rintro e w9 ⟨rfl, hb9⟩; have B9 := Lib.hid (hb0to Ba.out hb9); clear hb9))
        go_ret
        exact ⟨rfl, hb0to HBW.out B9.out⟩
      · have hd : decide ((40 : Int) < (c.length : Int)) = false := decide_eq_false (by omega)
        have H25c := Lib.hid (fun L' W hW hI => H25.out c A cv (by omega) hcv L' W hW hI)
        cases hc : crewB s c
        · rw [hc] at H25c
          clear h40 hv hS hc
          as_aux_lemma =>
          go_wp2_with (first
            | (go_at_call 25; refine (H25c.out _ wa Ma.out.H Ma.out.i).mono ?_; rintro e wb ⟨rfl, hb⟩; have Mb := Lib.hid (Ma.out.next hb); obtain ⟨h0, h1, h2, h3⟩ := Mb.out.x.cells; have Bb := Lib.hid (hb0to Ba.out hb); have I7b := Lib.hid (ints_later I7a.out hb); have I5b := Lib.hid (ints_later I5a.out hb); clear hb)
            | (go_at_call 17; refine (works_any _).mono ?_; rintro e w9 ⟨rfl, hb9⟩; have B9 := Lib.hid (hb0to Bb.out hb9); clear hb9))
          go_ret
          exact ⟨rfl, hb0to HBW.out B9.out⟩
        · rw [hc] at H25c
          have hcr := crewB_iff.1 hc
          have H29c := Lib.hid (fun Ax cx B cw L' W hW hI hJ => H29.out c hcr Ax cx B cw L' W hW hI hJ)
          rw [fits_safe hcr.1] at H29c
          cases hsf : safeC s c
          · rw [hsf] at H29c
            clear h40 hv hS hc hcr hsf
            as_aux_lemma =>
            go_wp2_with (first
              | (go_at_call 25; refine (H25c.out _ wa Ma.out.H Ma.out.i).mono ?_; rintro e wb ⟨rfl, hb⟩; have Mb := Lib.hid (Ma.out.next hb); obtain ⟨h0, h1, h2, h3⟩ := Mb.out.x.cells; have Bb := Lib.hid (hb0to Ba.out hb); have I7b := Lib.hid (ints_later I7a.out hb); have I5b := Lib.hid (ints_later I5a.out hb); clear hb)
              | (go_at_call 29; refine (H29c.out A cv A7 c7 _ wb Mb.out.H Mb.out.i I7b.out).mono ?_; rintro e wc ⟨rfl, hb⟩; have Mc := Lib.hid (Mb.out.next hb); obtain ⟨k0, k1, k2, k3⟩ := Mc.out.x.cells; have Bc := Lib.hid (hb0to Bb.out hb); have I5c := Lib.hid (ints_later I5b.out hb); clear hb)
              | (go_at_call 17; refine (works_any _).mono ?_; rintro e w9 ⟨rfl, hb9⟩; have B9 := Lib.hid (hb0to Bc.out hb9); clear hb9))
            go_ret
            exact ⟨rfl, hb0to HBW.out B9.out⟩
          · rw [hsf] at H29c
            obtain ⟨k1, k2⟩ := Q4.out c hcr hsf
            have H35c := Lib.hid (fun Ax cx L' W hW hI => H35.out c hcr Ax cx L' W hW hI)
            have H24 := Lib.hid (fun Ax cx W h1 h2 => rEarlier_any c q A Ax cv cx (by omega) hq4 W h1 h2)
            have hd0 : decide (n ≤ costS s c) = true := decide_eq_true k1
            by_cases hlt : n < costS s c
            · have hd1 : decide (n < costS s c) = true := decide_eq_true hlt
              generalize costS s c = own at H35c hd0 hd1
              clear h40 hv hS hc hcr hsf k1 k2 hlt
              as_aux_lemma =>
              go_wp2_with (first
                | (go_at_call 25; refine (H25c.out _ wa Ma.out.H Ma.out.i).mono ?_; rintro e wb ⟨rfl, hb⟩; have Mb := Lib.hid (Ma.out.next hb); obtain ⟨h0, h1, h2, h3⟩ := Mb.out.x.cells; have Bb := Lib.hid (hb0to Ba.out hb); have I7b := Lib.hid (ints_later I7a.out hb); have I5b := Lib.hid (ints_later I5a.out hb); clear hb)
                | (go_at_call 29; refine (H29c.out A cv A7 c7 _ wb Mb.out.H Mb.out.i I7b.out).mono ?_; rintro e wc ⟨rfl, hb⟩; have Mc := Lib.hid (Mb.out.next hb); obtain ⟨k0, k1, k2, k3⟩ := Mc.out.x.cells; have Bc := Lib.hid (hb0to Bb.out hb); have I5c := Lib.hid (ints_later I5b.out hb); clear hb)
                | (go_at_call 35; refine (H35c.out A cv _ wc Mc.out.H Mc.out.i).mono ?_; rintro e wd ⟨rfl, hb⟩; have Md := Lib.hid (Mc.out.next hb); obtain ⟨l0, l1, l2, l3⟩ := Md.out.x.cells; have Bd := Lib.hid (hb0to Bc.out hb); have I5d := Lib.hid (ints_later I5c.out hb); clear hb)
                | (go_at_call 17; refine (works_any _).mono ?_; rintro e w9 ⟨rfl, hb9⟩; have B9 := Lib.hid (hb0to Bd.out hb9); clear hb9))
              go_ret
              exact ⟨rfl, hb0to HBW.out B9.out⟩
            · have hd1 : decide (n < costS s c) = false := decide_eq_false hlt
              have k3 := k2 (by omega)
              rw [k3] at H24
              generalize costS s c = own at H35c hd0 hd1
              clear h40 hv hS hc hcr hsf k1 k2 k3 hlt
              as_aux_lemma =>
              go_wp2_with (first
                | (go_at_call 25; refine (H25c.out _ wa Ma.out.H Ma.out.i).mono ?_; rintro e wb ⟨rfl, hb⟩; have Mb := Lib.hid (Ma.out.next hb); obtain ⟨h0, h1, h2, h3⟩ := Mb.out.x.cells; have Bb := Lib.hid (hb0to Ba.out hb); have I7b := Lib.hid (ints_later I7a.out hb); have I5b := Lib.hid (ints_later I5a.out hb); clear hb)
                | (go_at_call 29; refine (H29c.out A cv A7 c7 _ wb Mb.out.H Mb.out.i I7b.out).mono ?_; rintro e wc ⟨rfl, hb⟩; have Mc := Lib.hid (Mb.out.next hb); obtain ⟨k0, k1, k2, k3⟩ := Mc.out.x.cells; have Bc := Lib.hid (hb0to Bb.out hb); have I5c := Lib.hid (ints_later I5b.out hb); clear hb)
                | (go_at_call 35; refine (H35c.out A cv _ wc Mc.out.H Mc.out.i).mono ?_; rintro e wd ⟨rfl, hb⟩; have Md := Lib.hid (Mc.out.next hb); obtain ⟨l0, l1, l2, l3⟩ := Md.out.x.cells; have Bd := Lib.hid (hb0to Bc.out hb); have I5d := Lib.hid (ints_later I5c.out hb); clear hb)
                | (go_at_call 24; refine (H24.out A5 c5 wd Md.out.i I5d.out).mono ?_; rintro e we ⟨rfl, hb⟩; have Me := Lib.hid (Md.out.next hb); have Be := Lib.hid (hb0to Bd.out hb); clear hb)
                | (go_at_call 17; refine (works_any _).mono ?_; rintro e w9 ⟨rfl, hb9⟩; have B9 := Lib.hid (hb0to Be.out hb9); clear hb9))
              go_ret
              exact ⟨rfl, hb0to HBW.out B9.out⟩
end Go.Proofs.Ytgjpllmmpclgaaa
