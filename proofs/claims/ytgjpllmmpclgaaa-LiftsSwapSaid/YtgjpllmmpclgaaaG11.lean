import Derived.Test.YtgjpllmmpclgaaaN4
import Derived.Test.YtgjpllmmpclgaaaO1
namespace Go.Proofs.Ytgjpllmmpclgaaa
open Go.RowKit

/-! LiftsCrew 8. -/
/-- What a statement that compares a sea with a copy of it keeps. -/
structure CMem (w W : World) (L L2 : SL) (s : Sea) (z z2 : Nat) : Prop where
  B : Below w.heap.size w W
  H : SeaAt W W.heap.size L s
  x : SBox W z L s
  O : SeaAt W W.heap.size L2 s
  y : SBox W z2 L2 s
theorem CMem.next {w W W' : World} {L L2 : SL} {s : Sea} {z z2 : Nat} (h : CMem w W L L2 s z z2) (hb : Below W.heap.size W W') : CMem w W' L L2 s z z2 :=
  ⟨hb0to h.B hb, h.H.below hb, h.x.of (hb.block _ h.x.lt), h.O.below hb, h.y.of (hb.block _ h.y.lt)⟩
theorem CMem.cells {w W : World} {L L2 : SL} {s : Sea} {z z2 : Nat} (h : CMem w W L L2 s z z2) : (W.cell? ⟨z, 0, none⟩ = some (.int .i64 s.wl) ∧ W.cell? ⟨z, 1, none⟩ = some (.int .i64 s.wh) ∧ W.cell? ⟨z, 2, none⟩ = some (.slice L.Ap s.ps.length L.cp) ∧ W.cell? ⟨z, 3, none⟩ = some (.slice L.Ab s.bs.length L.cb)) ∧
    (W.cell? ⟨z2, 0, none⟩ = some (.int .i64 s.wl) ∧ W.cell? ⟨z2, 1, none⟩ = some (.int .i64 s.wh) ∧ W.cell? ⟨z2, 2, none⟩ = some (.slice L2.Ap s.ps.length L2.cp) ∧ W.cell? ⟨z2, 3, none⟩ = some (.slice L2.Ab s.bs.length L2.cb)) := ⟨h.x.cells, h.y.cells⟩
theorem CMem.new {w W0 w2 : World} {L L2 : SL} {s : Sea} {z n0 : Nat} (hb0 : Below w.heap.size w W0) (h : SeaAt W0 W0.heap.size L s) (hx : SBox W0 z L s) (hb : Below W0.heap.size W0 w2) (hC : Copied w2 n0 L2 s) :
    CMem w (w2.alloc (.cells #[.int .i64 s.wl, .int .i64 s.wh, .slice L2.Ap s.ps.length L2.cp, .slice L2.Ab s.bs.length L2.cb] 27)) L L2 s z w2.heap.size := by
  have hb2 := hb0to hb (al_below w2 (.cells #[.int .i64 s.wl, .int .i64 s.wh, .slice L2.Ap s.ps.length L2.cp, .slice L2.Ab s.bs.length L2.cb] 27))
  exact ⟨hb0to hb0 hb2, h.below hb2, hx.of (hb2.block _ hx.lt), hC.sea.below (al_below _ _), SBox.new w2 L2 s⟩
theorem crewRet_len (s : Sea) : (crewRet s).1.length ≤ 1000 := by
  rcases crew_cheap s with ⟨er, _, h2, _⟩ | ⟨c, h0, h1, h2, _⟩
  · rw [h2]; simp
  · rw [h2]
    have := (SOK.ofValid (askS_ok h0).1).pl
    have := h1.1
    show c.length ≤ 1000
    omega
set_option maxRecDepth 100000 in
set_option maxHeartbeats 4000000 in
theorem crew_law (L : SL) (s : Sea) (hok : SLOK L s) (w : World) (hH : SeaAt w w.heap.size L s) : Calls Try.prog 8 #[L.enc s] w fun e w' => e = .returned (.bool true) ∧ Below w.heap.size w w' := by
  have hbw := al_below w (.cells #[.int .i64 s.wl, .int .i64 s.wh, .slice L.Ap s.ps.length L.cp, .slice L.Ab s.bs.length L.cb] 27)
  have HB := Lib.hid (SBox.new w L s)
  obtain ⟨c0, c1, c2, c3⟩ := (SBox.new w L s).cells
  obtain ⟨W0, hW0⟩ : ∃ W0, w.alloc (.cells #[.int .i64 s.wl, .int .i64 s.wh, .slice L.Ap s.ps.length L.cp, .slice L.Ab s.bs.length L.cb] 27) = W0 := ⟨_, rfl⟩
  rw [hW0] at hbw HB c0 c1 c2 c3
  have HBW := Lib.hid hbw
  have HW0 := Lib.hid hW0
  have HH := Lib.hid (hH.below hbw)
  have HF := Lib.hid (fun W => far_any L s W)
  cases hf : farB s
  · have hfl := far_le hf
    rw [hf] at HF
    have HC := Lib.hid (fun W hW => copy_any L s ⟨by omega, by omega⟩ hok W hW)
    have H33 := Lib.hid (fun L' W hW => Cheap_any L' s W hW)
    have H41 := Lib.hid (fun L' W hW => rcheap_any L' s W hW)
    have H32 := Lib.hid (fun L' W hW => Crew_any L' s W hW)
    have H42 := Lib.hid (fun L' W hW => rcrew_any L' s W hW)
    have HS44 := Lib.hid (fun L1 L2 W h1 h2 => same_is L1 L2 s ⟨by omega, by omega⟩ W h1 h2)
    have hcl := crewRet_len s
    obtain ⟨m, er, hm⟩ : ∃ m er, cheapRet s = (m, er) := ⟨_, _, rfl⟩
    obtain ⟨c, ec, hc⟩ : ∃ c ec, crewRet s = (c, ec) := ⟨_, _, rfl⟩
    rw [hm] at H33 H41
    rw [hc] at H32 H42 hcl
    clear hbw hW0 hH hf hfl hok hm hc
    obtain ⟨Ap, cp, Ab, cb⟩ := L
    go_enter Try.func8, Try.ntmps8
    go_upto_region 1 with (fail)
    have e := HW0.out
    rw [e]
    clear e
    go_upto_region 3 with (go_at_call 40; refine (HF.out W0).mono ?_; rintro e w1 ⟨rfl, hb1⟩; obtain ⟨r0, r1, r2, r3⟩ := (HB.out.of (hb1.block _ HB.out.lt)).cells; have B1 := Lib.hid hb1; clear hb1)
    go_upto_region 4 with (go_at_call 37; refine (HC.out w1 (HH.out.below B1.out)).mono ?_; rintro e w2 ⟨⟨⟨Bp, dp, Bb, db⟩, rfl, hC⟩, hb⟩; have B2 := Lib.hid (hb0to B1.out hb); have C2 := Lib.hid hC; clear hb hC)
    have M3 := Lib.hid (CMem.new HBW.out HH.out HB.out B2.out C2.out)
    simp only at M3
    obtain ⟨W3, hW3⟩ : ∃ W3, w2.alloc (.cells #[.int .i64 s.wl, .int .i64 s.wh, .slice Bp s.ps.length dp, .slice Bb s.bs.length db] 27) = W3 := ⟨_, rfl⟩
    rw [hW3] at M3 ⊢
    clear hW3 c0 c1 c2 c3 r0 r1 r2 r3
    obtain ⟨⟨t0, t1, t2, t3⟩, ⟨tz0, tz1, tz2, tz3⟩⟩ := M3.out.cells
    go_wp2_with (first
      | (go_at_call 33; refine (H33.out ⟨Bp, dp, Bb, db⟩ W3 M3.out.O).mono ?_; rintro e w4 ⟨rfl, hb⟩; have M4 := Lib.hid (M3.out.next hb); obtain ⟨⟨u0, u1, u2, u3⟩, ⟨uz0, uz1, uz2, uz3⟩⟩ := M4.out.cells; clear hb)
      | (go_at_call 41; refine (H41.out ⟨Ap, cp, Ab, cb⟩ w4 M4.out.H).mono ?_; rintro e w5 ⟨rfl, hb⟩; have M5 := Lib.hid (M4.out.next hb); obtain ⟨⟨v0, v1, v2, v3⟩, ⟨vz0, vz1, vz2, vz3⟩⟩ := M5.out.cells; clear hb)
      | (go_at_call 32; refine (H32.out ⟨Bp, dp, Bb, db⟩ w5 M5.out.O).mono ?_; rintro e w6 ⟨⟨A7, c7, rfl, h7, _⟩, hb⟩; have M6 := Lib.hid (M5.out.next hb); obtain ⟨⟨x0, x1, x2, x3⟩, ⟨xz0, xz1, xz2, xz3⟩⟩ := M6.out.cells; have I76 := Lib.hid h7; clear h7; clear hb)
      | (go_at_call 42; refine (H42.out ⟨Ap, cp, Ab, cb⟩ w6 M6.out.H).mono ?_; rintro e w7 ⟨⟨A8, c8, rfl, h8⟩, hb⟩; have M7 := Lib.hid (M6.out.next hb); obtain ⟨⟨y0, y1, y2, y3⟩, ⟨yz0, yz1, yz2, yz3⟩⟩ := M7.out.cells; have I77 := Lib.hid (I76.out.below hb).ints; have I87 := Lib.hid h8.ints; clear h8; clear hb)
      | (go_at_call 43; refine (sameInts_is A7 A8 c7 c8 c hcl w7 I77.out I87.out).mono ?_; rintro e w8 ⟨rfl, hb⟩; have M8 := Lib.hid (M7.out.next hb); obtain ⟨⟨g0, g1, g2, g3⟩, ⟨gz0, gz1, gz2, gz3⟩⟩ := M8.out.cells; clear hb)
      | (go_at_call 44; refine (HS44.out ⟨Bp, dp, Bb, db⟩ ⟨Ap, cp, Ab, cb⟩ w8 M8.out.O M8.out.H).mono ?_; rintro e w9 ⟨rfl, hb⟩; have M9 := Lib.hid (M8.out.next hb); clear hb)
      | (go_at_call 17; refine (works_any w9).mono ?_; rintro e wa ⟨rfl, hb⟩; have Ma := Lib.hid (M9.out.next hb); clear hb))
    go_ret
    exact ⟨rfl, Ma.out.B⟩
  · rw [hf] at HF
    clear hbw hW0 hH hf
    obtain ⟨Ap, cp, Ab, cb⟩ := L
    go_enter Try.func8, Try.ntmps8
    go_upto_region 1 with (fail)
    have e := HW0.out
    rw [e]
    clear e
    go_wp2_with (first
      | (go_at_call 40; refine (HF.out W0).mono ?_; rintro e w1 ⟨rfl, hb1⟩; obtain ⟨r0, r1, r2, r3⟩ := (HB.out.of (hb1.block _ HB.out.lt)).cells; have B1 := Lib.hid hb1; clear hb1)
      | (go_at_call 17; refine (works_any w1).mono ?_; rintro e w2 ⟨rfl, hb2⟩; have B2 := Lib.hid (hb0to B1.out hb2); clear hb2))
    go_ret
    exact ⟨rfl, hb0to HBW.out B2.out⟩
end Go.Proofs.Ytgjpllmmpclgaaa
