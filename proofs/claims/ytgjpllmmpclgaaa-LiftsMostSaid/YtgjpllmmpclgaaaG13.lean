import Derived.Test.YtgjpllmmpclgaaaNA
import Derived.Test.YtgjpllmmpclgaaaN8
import Derived.Test.YtgjpllmmpclgaaaG11
namespace Go.Proofs.Ytgjpllmmpclgaaa
open Go.RowKit

/-! LiftsMost 12. -/
theorem shortRet_len (s : Sea) : (shortRet s).1.length ≤ 1000 := by
  unfold shortRet
  by_cases h : askS s true = 0
  · rw [if_neg (by simp [h])]
    have hS := SOK.ofValid (askS_ok h).1
    have h1 := shortTo_len s (2 ^ s.ps.length - 1)
    have h2 := hS.pl
    unfold shortOf
    split
    · simp
    · show (shortS s).length ≤ 1000
      unfold shortS
      omega
  · rw [if_pos h]; simp
theorem helpsRet_len (s : Sea) : (helpsRet s).1.length ≤ 1000 := by
  rcases helps_two s with ⟨er, _, _, h3⟩ | ⟨_, _, _, h3⟩ | ⟨hv, _, _, h3⟩
  · rw [h3]; simp
  · rw [h3]; simp
  · rw [h3]
    have := helpsTo_len s s.bs.length
    have := (SOK.ofValid hv).bl
    show (helpsTo s s.bs.length).length ≤ 1000
    omega
set_option maxRecDepth 100000 in
set_option maxHeartbeats 4000000 in
theorem most_law (L : SL) (s : Sea) (hok : SLOK L s) (w : World) (hH : SeaAt w w.heap.size L s) : Calls Try.prog 12 #[L.enc s] w fun e w' => e = .returned (.bool true) ∧ Below w.heap.size w w' := by
  have hbw := al_below w (.cells #[.int .i64 s.wl, .int .i64 s.wh, .slice L.Ap s.ps.length L.cp, .slice L.Ab s.bs.length L.cb] 27)
  have HB := Lib.hid (SBox.new w L s)
  obtain ⟨c0, c1, c2, c3⟩ := (SBox.new w L s).cells
  obtain ⟨W0, hW0⟩ : ∃ W0, w.alloc (.cells #[.int .i64 s.wl, .int .i64 s.wh, .slice L.Ap s.ps.length L.cp, .slice L.Ab s.bs.length L.cb] 27) = W0 := ⟨_, rfl⟩
  rw [hW0] at hbw HB c0 c1 c2 c3
  have HBW := Lib.hid hbw
  have HW0 := Lib.hid hW0
  have HH := Lib.hid (hH.below hbw)
  have HF := Lib.hid (fun W => far_any L s W)
  cases hf : farB s
  · have hfl := far_le hf
    rw [hf] at HF
    have HC := Lib.hid (fun W hW => copy_any L s ⟨by omega, by omega⟩ hok W hW)
    have H57 := Lib.hid (fun L' W hW => Most_any L' s W hW)
    have H58 := Lib.hid (fun L' W hW => rMost_any L' s W hW)
    have H18 := Lib.hid (fun L' W hW => Short_any L' s W hW)
    have H59 := Lib.hid (fun L' W hW => rshort_any L' s W hW)
    have H60 := Lib.hid (fun L' W hW => Helps_any L' s W hW)
    have H61 := Lib.hid (fun W hW => rhelps_any L s hok W hW)
    have HS44 := Lib.hid (fun L1 L2 W h1 h2 => same_is L1 L2 s ⟨by omega, by omega⟩ W h1 h2)
    have hcl := shortRet_len s
    have hdl := helpsRet_len s
    obtain ⟨m, er, hm⟩ : ∃ m er, mostRet s = (m, er) := ⟨_, _, rfl⟩
    obtain ⟨c, ec, hc⟩ : ∃ c ec, shortRet s = (c, ec) := ⟨_, _, rfl⟩
    obtain ⟨d, ed, hd⟩ : ∃ c ec, helpsRet s = (c, ec) := ⟨_, _, rfl⟩
    rw [hm] at H57 H58
    rw [hc] at H18 H59 hcl
    rw [hd] at H60 H61 hdl
    clear hbw hW0 hH hf hfl hok hm hc hd
    obtain ⟨Ap, cp, Ab, cb⟩ := L
    go_enter Try.func12, Try.ntmps12
    go_upto_region 1 with (fail)
    have e := HW0.out
    rw [e]
    clear e
    go_upto_region 3 with (go_at_call 40; refine (HF.out W0).mono ?_; rintro e w1 ⟨rfl, hb1⟩; obtain ⟨r0, r1, r2, r3⟩ := (HB.out.of (hb1.block _ HB.out.lt)).cells; have B1 := Lib.hid hb1; clear hb1)
    go_upto_region 4 with (go_at_call 37; refine (HC.out w1 (HH.out.below B1.out)).mono ?_; rintro e w2 ⟨⟨⟨Bp, dp, Bb, db⟩, rfl, hC⟩, hb⟩; have B2 := Lib.hid (hb0to B1.out hb); have C2 := Lib.hid hC; clear hb hC)
    have M3 := Lib.hid (CMem.new HBW.out HH.out HB.out B2.out C2.out)
    simp only at M3
    obtain ⟨W3, hW3⟩ : ∃ W3, w2.alloc (.cells #[.int .i64 s.wl, .int .i64 s.wh, .slice Bp s.ps.length dp, .slice Bb s.bs.length db] 27) = W3 := ⟨_, rfl⟩
    rw [hW3] at M3 ⊢
    clear hW3 c0 c1 c2 c3 r0 r1 r2 r3
    obtain ⟨⟨t0, t1, t2, t3⟩, ⟨tz0, tz1, tz2, tz3⟩⟩ := M3.out.cells
    go_wp2_with (first
      | (go_at_call 57; refine (H57.out ⟨Bp, dp, Bb, db⟩ W3 M3.out.O).mono ?_; rintro e w4 ⟨rfl, hb⟩; have M4 := Lib.hid (M3.out.next hb); obtain ⟨⟨u0, u1, u2, u3⟩, ⟨uz0, uz1, uz2, uz3⟩⟩ := M4.out.cells; clear hb)
      | (go_at_call 58; refine (H58.out ⟨Ap, cp, Ab, cb⟩ w4 M4.out.H).mono ?_; rintro e w5 ⟨rfl, hb⟩; have M5 := Lib.hid (M4.out.next hb); obtain ⟨⟨v0, v1, v2, v3⟩, ⟨vz0, vz1, vz2, vz3⟩⟩ := M5.out.cells; clear hb)
      | (go_at_call 18; refine (H18.out ⟨Bp, dp, Bb, db⟩ w5 M5.out.O).mono ?_; rintro e w6 ⟨⟨A7, k7, rfl, h7⟩, hb⟩; have M6 := Lib.hid (M5.out.next hb); obtain ⟨⟨x0, x1, x2, x3⟩, ⟨xz0, xz1, xz2, xz3⟩⟩ := M6.out.cells; have I7 := Lib.hid h7.ints; clear h7; clear hb)
      | (go_at_call 59; refine (H59.out ⟨Ap, cp, Ab, cb⟩ w6 M6.out.H).mono ?_; rintro e w7 ⟨⟨A8, k8, rfl, h8⟩, hb⟩; have M7 := Lib.hid (M6.out.next hb); obtain ⟨⟨y0, y1, y2, y3⟩, ⟨yz0, yz1, yz2, yz3⟩⟩ := M7.out.cells; have I77 := Lib.hid (ints_later I7.out hb); have I8 := Lib.hid h8.ints; clear h8; clear hb)
      | (go_at_call 60; clear x0 x1 x2 x3 xz0 xz1 xz2 xz3; refine (H60.out ⟨Bp, dp, Bb, db⟩ w7 M7.out.O).mono ?_; rintro e w9 ⟨⟨A6, k6, rfl, h6⟩, hb⟩; have M9 := Lib.hid (M7.out.next hb); obtain ⟨⟨x0, x1, x2, x3⟩, ⟨xz0, xz1, xz2, xz3⟩⟩ := M9.out.cells; have I79 := Lib.hid (ints_later I77.out hb); have I89 := Lib.hid (ints_later I8.out hb); have I6 := Lib.hid h6; clear h6; clear hb)
      | (go_at_call 61; clear y0 y1 y2 y3 yz0 yz1 yz2 yz3; refine (H61.out w9 M9.out.H).mono ?_; rintro e wa ⟨⟨A5, k5, rfl, h5⟩, hb⟩; have Ma := Lib.hid (M9.out.next hb); obtain ⟨⟨y0, y1, y2, y3⟩, ⟨yz0, yz1, yz2, yz3⟩⟩ := Ma.out.cells; have J7 := Lib.hid (ints_later I79.out hb); have J8 := Lib.hid (ints_later I89.out hb); have J6 := Lib.hid (ints_later I6.out hb); have J5 := Lib.hid h5; clear h5; clear hb)
      | (go_at_call 43; refine (sameInts_is A6 A5 k6 k5 d hdl wb J66.out J56.out).mono ?_; rintro e wc ⟨rfl, hb⟩; have Mc := Lib.hid (Mb.out.next hb); obtain ⟨⟨h0, h1, h2, h3⟩, ⟨hz0, hz1, hz2, hz3⟩⟩ := Mc.out.cells; clear hb)
      | (go_at_call 43; refine (sameInts_is A7 A8 k7 k8 c hcl wa J7.out J8.out).mono ?_; rintro e wb ⟨rfl, hb⟩; have Mb := Lib.hid (Ma.out.next hb); have J66 := Lib.hid (ints_later J6.out hb); have J56 := Lib.hid (ints_later J5.out hb); obtain ⟨⟨g0, g1, g2, g3⟩, ⟨gz0, gz1, gz2, gz3⟩⟩ := Mb.out.cells; clear hb)
      | (go_at_call 44; refine (HS44.out ⟨Bp, dp, Bb, db⟩ ⟨Ap, cp, Ab, cb⟩ wc Mc.out.O Mc.out.H).mono ?_; rintro e wd ⟨rfl, hb⟩; have Md := Lib.hid (Mc.out.next hb); clear hb)
      | (go_at_call 17; refine (works_any wd).mono ?_; rintro e we ⟨rfl, hb⟩; have Me := Lib.hid (Md.out.next hb); clear hb))
    go_ret
    exact ⟨rfl, Me.out.B⟩
  · rw [hf] at HF
    clear hbw hW0 hH hf
    obtain ⟨Ap, cp, Ab, cb⟩ := L
    go_enter Try.func12, Try.ntmps12
    go_upto_region 1 with (fail)
    have e := HW0.out
    rw [e]
    clear e
    go_wp2_with (first
      | (go_at_call 40; refine (HF.out W0).mono ?_; rintro e w1 ⟨rfl, hb1⟩; obtain ⟨r0, r1, r2, r3⟩ := (HB.out.of (hb1.block _ HB.out.lt)).cells; have B1 := Lib.hid hb1; clear hb1)
      | (go_at_call 17; refine (works_any w1).mono ?_; rintro e w2 ⟨rfl, hb2⟩; have B2 := Lib.hid (hb0to B1.out hb2); clear hb2))
    go_ret
    exact ⟨rfl, hb0to HBW.out B2.out⟩
end Go.Proofs.Ytgjpllmmpclgaaa
