import Derived.Test.YtmbcpmnigggbaaaLiD3
namespace Go.Proofs.Ytmbcpmnigggbaaa.Li
open Go.RowKit

/-! Lifts 67, Most 57, Cheap 33, Crew 32. -/
/-- What Lifts returns. -/
def liftsRet (s : Sea) (c : List Int) : Int × Int := if askS s (crewB s c) ≠ 0 then (0, askS s (crewB s c)) else (liftS s c, 0)
/-- What Most returns. -/
def mostRet (s : Sea) : Int × Int := if askS s true ≠ 0 then (0, askS s true) else if mostS s < 0 then (0, 3) else (mostS s, 0)
/-- What Cheap returns. -/
def cheapRet (s : Sea) : Int × Int := if askS s true ≠ 0 then (0, askS s true) else match cheapS s with | none => (0, 3) | some (_, n) => (n, 0)
/-- What Crew returns. -/
def crewRet (s : Sea) : List Int × Int := if askS s true ≠ 0 then ([], askS s true) else match cheapS s with | none => ([], 3) | some (c, _) => (c, 0)
theorem IntsFrom.mono {W : World} {B B' : Nat} {A : Option Addr} {l : List Int} (h : IntsFrom W B A l) (hB : B' ≤ B) : IntsFrom W B' A l := by
  rcases h with h | ⟨b, off, e, h5, h6, h7⟩
  · exact .inl h
  · exact .inr ⟨b, off, e, by omega, h6, h7⟩
/-- The same, and how long the slice may grow. -/
def ListRetC (B : Nat) (w' : World) (e : Ending) (r : List Int × Int) : Prop := ∃ A cp, e = .returned (.tuple #[.slice A r.1.length cp, .int .i64 r.2]) ∧ IntsFrom w' B A r.1 ∧ r.1.length ≤ cp
theorem listRetC_nil {B : Nat} {w' : World} {er : Int} : ListRetC B w' (.returned (.tuple #[.slice none 0 0, .int .i64 er])) ([], er) := ⟨none, 0, rfl, .inl ⟨rfl, rfl⟩, Nat.le_refl _⟩
set_option maxRecDepth 100000 in
set_option maxHeartbeats 4000000 in
theorem Lifts_any (L : SL) (s : Sea) (c : List Int) (A : Option Addr) (cv : Nat) (hcl : c.length ≤ 1000) (w : World) (hH : SeaAt w w.heap.size L s) (hI : IntsAt w w.heap.size A c) : Calls Try.prog 27 #[L.enc s, .slice A c.length cv] w fun e w' => e = .returned (.tuple #[.int .i64 (liftsRet s c).1, .int .i64 (liftsRet s c).2]) ∧ Below w.heap.size w w' := by
  have hbw := al_below w (.cells #[.int .i64 s.wl, .int .i64 s.wh, .slice L.Ap s.ps.length L.cp, .slice L.Ab s.bs.length L.cb] 44)
  have HB := Lib.hid (SBox.new w L s)
  obtain ⟨c0, c1, c2, c3⟩ := (SBox.new w L s).cells
  obtain ⟨W0, hW0⟩ : ∃ W0, w.alloc (.cells #[.int .i64 s.wl, .int .i64 s.wh, .slice L.Ap s.ps.length L.cp, .slice L.Ab s.bs.length L.cb] 44) = W0 := ⟨_, rfl⟩
  rw [hW0] at hbw HB c0 c1 c2 c3
  have HBW := Lib.hid hbw
  have HW0 := Lib.hid hW0
  have HH := Lib.hid (hH.below hbw)
  have HI := Lib.hid (ints_later hI hbw)
  by_cases h0 : askS s (crewB s c) = 0
  · have HQ := Lib.hid (show liftsRet s c = (liftS s c, 0) by unfold liftsRet; rw [if_neg (by simp [h0])])
    have H1 := Lib.hid (fun W hW hI => sailing_yes L s c A cv hcl W hW hI h0)
    obtain ⟨hv, hc⟩ := askS_ok h0
    have hcr := crewB_iff.1 hc
    have H84 := Lib.hid (fun b W hW hb hH hI => lifts_any L s (SOK.ofValid hv) b c A cv hcr.2.1 (Nat.le_of_eq hcr.1) W hW hb hH hI)
    clear hbw hW0 hH hI h0 hv hc hcr
    obtain ⟨Ap, cp, Ab, cb⟩ := L
    go_enter Try.func27, Try.ntmps27
    go_upto_region 1 with (fail)
    have e := HW0.out
    rw [e]
    clear e
    go_wp2_with (first
      | (go_at_call 78; refine (H1.out W0 HH.out HI.out).mono ?_; rintro e w1 ⟨⟨b, rfl, hbb, hWB⟩, hb1⟩; have B1 := Lib.hid hb1; have WB := Lib.hid hWB; have HBB := Lib.hid hbb; clear hb1 hWB hbb)
      | (go_at_call 80; refine (H84.out b w1 WB.out WB.out.lt (HH.out.below B1.out) (ints_later HI.out B1.out)).mono ?_; rintro e w2 ⟨rfl, hb2⟩; have B2 := Lib.hid (hb0to B1.out hb2); clear hb2))
    go_ret2
    exact ⟨by rw [HQ.out]; rfl, hb0to HBW.out B2.out⟩
  · have HQ := Lib.hid (show liftsRet s c = (0, askS s (crewB s c)) by unfold liftsRet; rw [if_pos h0])
    have H1 := Lib.hid (fun W hW hI => sailing_no L s c A cv hcl W hW hI h0)
    obtain ⟨er, her⟩ : ∃ x, x = askS s (crewB s c) := ⟨_, rfl⟩
    rw [← her] at H1 HQ h0
    have hd : (er != 0) = true := bne_iff_ne.2 h0
    clear hbw hW0 hH hI h0 her
    obtain ⟨Ap, cp, Ab, cb⟩ := L
    go_enter Try.func27, Try.ntmps27
    go_upto_region 1 with (fail)
    have e := HW0.out
    rw [e]
    clear e
    go_wp2_with (go_at_call 78; refine (H1.out W0 HH.out HI.out).mono ?_; rintro e w1 ⟨rfl, hb1⟩; have B1 := Lib.hid hb1; clear hb1)
    go_ret2
    exact ⟨by rw [HQ.out]; rfl, hb0to HBW.out B1.out⟩
set_option maxRecDepth 100000 in
set_option maxHeartbeats 4000000 in
theorem Most_any (L : SL) (s : Sea) (w : World) (hH : SeaAt w w.heap.size L s) : Calls Try.prog 23 #[L.enc s] w fun e w' => e = .returned (.tuple #[.int .i64 (mostRet s).1, .int .i64 (mostRet s).2]) ∧ Below w.heap.size w w' := by
  have hbw := al_below w (.cells #[.int .i64 s.wl, .int .i64 s.wh, .slice L.Ap s.ps.length L.cp, .slice L.Ab s.bs.length L.cb] 44)
  have HB := Lib.hid (SBox.new w L s)
  obtain ⟨c0, c1, c2, c3⟩ := (SBox.new w L s).cells
  obtain ⟨W0, hW0⟩ : ∃ W0, w.alloc (.cells #[.int .i64 s.wl, .int .i64 s.wh, .slice L.Ap s.ps.length L.cp, .slice L.Ab s.bs.length L.cb] 44) = W0 := ⟨_, rfl⟩
  rw [hW0] at hbw HB c0 c1 c2 c3
  have HBW := Lib.hid hbw
  have HW0 := Lib.hid hW0
  have HH := Lib.hid (hH.below hbw)
  by_cases h0 : askS s true = 0
  · have hq : mostRet s = if mostS s < 0 then (0, 3) else (mostS s, 0) := by unfold mostRet; rw [if_neg (by simp [h0])]
    have H1 := Lib.hid (fun W hW => open_yes L s true W hW h0)
    have hv := (askS_ok h0).1
    have H90 := Lib.hid (fun b W hW hH => most_any L s (SOK.ofValid hv) b W hW hH)
    generalize mostS s = m at hq H90
    by_cases hlt : m < 0
    · rw [if_pos hlt] at hq
      have HQ := Lib.hid hq
      clear hbw hW0 hH h0 hv hq
      obtain ⟨Ap, cp, Ab, cb⟩ := L
      go_enter Try.func23, Try.ntmps23
      go_upto_region 1 with (fail)
      have e := HW0.out
      rw [e]
      clear e
      go_wp2_with (first
        | (go_at_call 73; refine (H1.out W0 HH.out).mono ?_; rintro e w1 ⟨⟨b, rfl, hbb, hWB⟩, hb1⟩; have B1 := Lib.hid hb1; have WB := Lib.hid hWB; have HBB := Lib.hid hbb; clear hb1 hWB hbb)
        | (go_at_call 74; refine (H90.out b w1 WB.out (HH.out.below B1.out)).mono ?_; rintro e w2 ⟨rfl, hb2⟩; have B2 := Lib.hid (hb0to B1.out hb2); clear hb2))
      go_ret2
      exact ⟨by rw [HQ.out]; try rfl, hb0to HBW.out B2.out⟩
    · rw [if_neg hlt] at hq
      have HQ := Lib.hid hq
      clear hbw hW0 hH h0 hv hq
      obtain ⟨Ap, cp, Ab, cb⟩ := L
      go_enter Try.func23, Try.ntmps23
      go_upto_region 1 with (fail)
      have e := HW0.out
      rw [e]
      clear e
      go_wp2_with (first
        | (go_at_call 73; refine (H1.out W0 HH.out).mono ?_; rintro e w1 ⟨⟨b, rfl, hbb, hWB⟩, hb1⟩; have B1 := Lib.hid hb1; have WB := Lib.hid hWB; have HBB := Lib.hid hbb; clear hb1 hWB hbb)
        | (go_at_call 74; refine (H90.out b w1 WB.out (HH.out.below B1.out)).mono ?_; rintro e w2 ⟨rfl, hb2⟩; have B2 := Lib.hid (hb0to B1.out hb2); clear hb2))
      go_ret2
      exact ⟨by rw [HQ.out]; try rfl, hb0to HBW.out B2.out⟩
  · have HQ := Lib.hid (show mostRet s = (0, askS s true) by unfold mostRet; rw [if_pos h0])
    have H1 := Lib.hid (fun W hW => open_no L s true W hW h0)
    obtain ⟨er, her⟩ : ∃ x, x = askS s true := ⟨_, rfl⟩
    rw [← her] at H1 HQ h0
    have hd : (er != 0) = true := bne_iff_ne.2 h0
    clear hbw hW0 hH h0 her
    obtain ⟨Ap, cp, Ab, cb⟩ := L
    go_enter Try.func23, Try.ntmps23
    go_upto_region 1 with (fail)
    have e := HW0.out
    rw [e]
    clear e
    go_wp2_with (go_at_call 73; refine (H1.out W0 HH.out).mono ?_; rintro e w1 ⟨rfl, hb1⟩; have B1 := Lib.hid hb1; clear hb1)
    go_ret2
    exact ⟨by rw [HQ.out]; rfl, hb0to HBW.out B1.out⟩
set_option maxRecDepth 100000 in
set_option maxHeartbeats 4000000 in
theorem Cheap_any (L : SL) (s : Sea) (w : World) (hH : SeaAt w w.heap.size L s) : Calls Try.prog 24 #[L.enc s] w fun e w' => e = .returned (.tuple #[.int .i64 (cheapRet s).1, .int .i64 (cheapRet s).2]) ∧ Below w.heap.size w w' := by
  have hbw := al_below w (.cells #[.int .i64 s.wl, .int .i64 s.wh, .slice L.Ap s.ps.length L.cp, .slice L.Ab s.bs.length L.cb] 44)
  have HB := Lib.hid (SBox.new w L s)
  obtain ⟨c0, c1, c2, c3⟩ := (SBox.new w L s).cells
  obtain ⟨W0, hW0⟩ : ∃ W0, w.alloc (.cells #[.int .i64 s.wl, .int .i64 s.wh, .slice L.Ap s.ps.length L.cp, .slice L.Ab s.bs.length L.cb] 44) = W0 := ⟨_, rfl⟩
  rw [hW0] at hbw HB c0 c1 c2 c3
  have HBW := Lib.hid hbw
  have HW0 := Lib.hid hW0
  have HH := Lib.hid (hH.below hbw)
  by_cases h0 : askS s true = 0
  · have H1 := Lib.hid (fun W hW => open_yes L s true W hW h0)
    have hv := (askS_ok h0).1
    have H79 := Lib.hid (fun b W hW hH => cheapest_any L s (SOK.ofValid hv) b W hW hH)
    cases hcs : cheapS s with
    | none =>
      have HQ := Lib.hid (show cheapRet s = (0, 3) by unfold cheapRet; rw [if_neg (by simp [h0]), hcs])
      have HCS := Lib.hid hcs
      clear hbw hW0 hH h0 hv hcs
      obtain ⟨Ap, cp, Ab, cb⟩ := L
      go_enter Try.func24, Try.ntmps24
      go_upto_region 1 with (fail)
      have e := HW0.out
      rw [e]
      clear e
      go_wp2_with (first
        | (go_at_call 73; refine (H1.out W0 HH.out).mono ?_; rintro e w1 ⟨⟨b, rfl, hbb, hWB⟩, hb1⟩; have B1 := Lib.hid hb1; have WB := Lib.hid hWB; have HBB := Lib.hid hbb; clear hb1 hWB hbb)
        | (go_at_call 75; refine (H79.out b w1 WB.out (HH.out.below B1.out)).mono ?_; rintro e w2 ⟨best, n, rfl, hch, hb2⟩; have B2 := Lib.hid (hb0to B1.out hb2); rw [HCS.out] at hch; obtain ⟨rfl, rfl⟩ := hch; clear hb2))
      go_ret2
      exact ⟨by rw [HQ.out]; try rfl, hb0to HBW.out B2.out⟩
    | some cn =>
      obtain ⟨c, m⟩ := cn
      have HQ := Lib.hid (show cheapRet s = (m, 0) by unfold cheapRet; rw [if_neg (by simp [h0]), hcs])
      have HCS := Lib.hid hcs
      clear hbw hW0 hH h0 hv hcs
      obtain ⟨Ap, cp, Ab, cb⟩ := L
      go_enter Try.func24, Try.ntmps24
      go_upto_region 1 with (fail)
      have e := HW0.out
      rw [e]
      clear e
      go_wp2_with (first
        | (go_at_call 73; refine (H1.out W0 HH.out).mono ?_; rintro e w1 ⟨⟨b, rfl, hbb, hWB⟩, hb1⟩; have B1 := Lib.hid hb1; have WB := Lib.hid hWB; have HBB := Lib.hid hbb; clear hb1 hWB hbb)
        | (go_at_call 75; refine (H79.out b w1 WB.out (HH.out.below B1.out)).mono ?_; rintro e w2 ⟨best, n, rfl, hch, hb2⟩; have B2 := Lib.hid (hb0to B1.out hb2); rw [HCS.out] at hch; obtain ⟨rfl, hm0, A2, c2, rfl, hA2, hcap⟩ := hch; have HA2 := Lib.hid hA2; have HCAP := Lib.hid hcap; clear hcap; have hmd : decide (n < 0) = false := decide_eq_false (Int.not_lt.2 hm0); clear hA2; clear hb2))
      go_ret2
      exact ⟨by rw [HQ.out]; try rfl, hb0to HBW.out B2.out⟩
  · have HQ := Lib.hid (show cheapRet s = (0, askS s true) by unfold cheapRet; rw [if_pos h0])
    have H1 := Lib.hid (fun W hW => open_no L s true W hW h0)
    obtain ⟨er, her⟩ : ∃ x, x = askS s true := ⟨_, rfl⟩
    rw [← her] at H1 HQ h0
    have hd : (er != 0) = true := bne_iff_ne.2 h0
    clear hbw hW0 hH h0 her
    obtain ⟨Ap, cp, Ab, cb⟩ := L
    go_enter Try.func24, Try.ntmps24
    go_upto_region 1 with (fail)
    have e := HW0.out
    rw [e]
    clear e
    go_wp2_with (go_at_call 73; refine (H1.out W0 HH.out).mono ?_; rintro e w1 ⟨rfl, hb1⟩; have B1 := Lib.hid hb1; clear hb1)
    go_ret2
    exact ⟨by rw [HQ.out]; rfl, hb0to HBW.out B1.out⟩
set_option maxRecDepth 100000 in
set_option maxHeartbeats 4000000 in
theorem Crew_any (L : SL) (s : Sea) (w : World) (hH : SeaAt w w.heap.size L s) : Calls Try.prog 82 #[L.enc s] w fun e w' => ListRetC w.heap.size w' e (crewRet s) ∧ Below w.heap.size w w' := by
  have hbw := al_below w (.cells #[.int .i64 s.wl, .int .i64 s.wh, .slice L.Ap s.ps.length L.cp, .slice L.Ab s.bs.length L.cb] 44)
  have HB := Lib.hid (SBox.new w L s)
  obtain ⟨c0, c1, c2, c3⟩ := (SBox.new w L s).cells
  obtain ⟨W0, hW0⟩ : ∃ W0, w.alloc (.cells #[.int .i64 s.wl, .int .i64 s.wh, .slice L.Ap s.ps.length L.cp, .slice L.Ab s.bs.length L.cb] 44) = W0 := ⟨_, rfl⟩
  rw [hW0] at hbw HB c0 c1 c2 c3
  have HBW := Lib.hid hbw
  have HW0 := Lib.hid hW0
  have HH := Lib.hid (hH.below hbw)
  by_cases h0 : askS s true = 0
  · have H1 := Lib.hid (fun W hW => open_yes L s true W hW h0)
    have hv := (askS_ok h0).1
    have H79 := Lib.hid (fun b W hW hH => cheapest_any L s (SOK.ofValid hv) b W hW hH)
    cases hcs : cheapS s with
    | none =>
      have HQ := Lib.hid (show crewRet s = ([], 3) by unfold crewRet; rw [if_neg (by simp [h0]), hcs])
      have HCS := Lib.hid hcs
      clear hbw hW0 hH h0 hv hcs
      obtain ⟨Ap, cp, Ab, cb⟩ := L
      go_enter Try.func82, Try.ntmps82
      go_upto_region 1 with (fail)
      have e := HW0.out
      rw [e]
      clear e
      go_wp2_with (first
        | (go_at_call 73; refine (H1.out W0 HH.out).mono ?_; rintro e w1 ⟨⟨b, rfl, hbb, hWB⟩, hb1⟩; have B1 := Lib.hid hb1; have WB := Lib.hid hWB; have HBB := Lib.hid hbb; clear hb1 hWB hbb)
        | (go_at_call 75; refine (H79.out b w1 WB.out (HH.out.below B1.out)).mono ?_; rintro e w2 ⟨best, n, rfl, hch, hb2⟩; have B2 := Lib.hid (hb0to B1.out hb2); rw [HCS.out] at hch; obtain ⟨rfl, rfl⟩ := hch; clear hb2))
      go_ret2
      exact ⟨by rw [HQ.out]; exact listRetC_nil, hb0to HBW.out B2.out⟩
    | some cn =>
      obtain ⟨c, m⟩ := cn
      have HQ := Lib.hid (show crewRet s = (c, 0) by unfold crewRet; rw [if_neg (by simp [h0]), hcs])
      have HCS := Lib.hid hcs
      clear hbw hW0 hH h0 hv hcs
      obtain ⟨Ap, cp, Ab, cb⟩ := L
      go_enter Try.func82, Try.ntmps82
      go_upto_region 1 with (fail)
      have e := HW0.out
      rw [e]
      clear e
      go_wp2_with (first
        | (go_at_call 73; refine (H1.out W0 HH.out).mono ?_; rintro e w1 ⟨⟨b, rfl, hbb, hWB⟩, hb1⟩; have B1 := Lib.hid hb1; have WB := Lib.hid hWB; have HBB := Lib.hid hbb; clear hb1 hWB hbb)
        | (go_at_call 75; refine (H79.out b w1 WB.out (HH.out.below B1.out)).mono ?_; rintro e w2 ⟨best, n, rfl, hch, hb2⟩; have B2 := Lib.hid (hb0to B1.out hb2); rw [HCS.out] at hch; obtain ⟨rfl, hm0, A2, c2, rfl, hA2, hcap⟩ := hch; have HA2 := Lib.hid hA2; have HCAP := Lib.hid hcap; clear hcap; have hmd : decide (n < 0) = false := decide_eq_false (Int.not_lt.2 hm0); clear hA2; clear hb2))
      go_ret2
      exact ⟨by rw [HQ.out]; exact ⟨_, _, rfl, HA2.out.mono (Nat.le_trans HBW.out.size B1.out.size), HCAP.out⟩, hb0to HBW.out B2.out⟩
  · have HQ := Lib.hid (show crewRet s = ([], askS s true) by unfold crewRet; rw [if_pos h0])
    have H1 := Lib.hid (fun W hW => open_no L s true W hW h0)
    obtain ⟨er, her⟩ : ∃ x, x = askS s true := ⟨_, rfl⟩
    rw [← her] at H1 HQ h0
    have hd : (er != 0) = true := bne_iff_ne.2 h0
    clear hbw hW0 hH h0 her
    obtain ⟨Ap, cp, Ab, cb⟩ := L
    go_enter Try.func82, Try.ntmps82
    go_upto_region 1 with (fail)
    have e := HW0.out
    rw [e]
    clear e
    go_wp2_with (go_at_call 73; refine (H1.out W0 HH.out).mono ?_; rintro e w1 ⟨rfl, hb1⟩; have B1 := Lib.hid hb1; clear hb1)
    go_ret2
    exact ⟨by rw [HQ.out]; exact listRetC_nil, hb0to HBW.out B1.out⟩
open Go.RowKit

/-! Safe 26. -/
/-- The carries of a crew's boats. -/
def carriesL (s : Sea) (c : List Int) : List Int := c.map fun j => carryN s j.toNat
def capC (s : Sea) (c : List Int) : List (Int × Int) := capL s.wl s.ps (carriesL s c)
def loHi (x : Int × Int) : Bool := decide (x.1 ≤ x.2)
/-- In each truth some boat of a crew is over its load. -/
def neverB (s : Sea) (c : List Int) : Bool := !((capC s c).all loHi && decide (12 ≤ sumH (capC s c)))
def safeN (s : Sea) (c : List Int) : Int := if safeC s c = true then 1 else if neverB s c = true then 2 else 3
/-- What Safe returns. -/
def safeRet (s : Sea) (c : List Int) : Int × Int := if askS s (crewB s c) ≠ 0 then (0, askS s (crewB s c)) else (safeN s c, 0)
theorem capC_at {s : Sea} {c : List Int} {k j : Nat} {p z : Int × Int} (hc : c[k]? = some (j : Int)) (hp : s.ps[k]? = some p) (hz : s.bs[j]? = some z) : (capC s c)[k]? = some (capX s.wl p z.1) := by
  unfold capC capL carriesL
  rw [List.getElem?_zipWith]
  simp [hc, hp, boat_eq hz]
theorem capC_len {s : Sea} {c : List Int} (h : c.length = s.ps.length) : (capC s c).length = c.length := by
  unfold capC capL carriesL
  simp [h]
theorem capX_pos {w : Int} {p : Int × Int} {c : Int} (h : 0 < w) (h2 : 12 * c / w < p.2) : (capX w p c).2 = 12 * c / w := by
  unfold capX; simp only [if_pos h]; omega
theorem capX_pos2 {w : Int} {p : Int × Int} {c : Int} (h : 0 < w) (h2 : p.2 ≤ 12 * c / w) : (capX w p c).2 = p.2 := by
  unfold capX; simp only [if_pos h]; omega
theorem capX_neg {w : Int} {p : Int × Int} {c : Int} (h : ¬ 0 < w) : (capX w p c).2 = p.2 := by
  unfold capX; simp only [if_neg h]
set_option maxRecDepth 100000 in
set_option maxHeartbeats 4000000 in
theorem Safe_any (L : SL) (s : Sea) (c : List Int) (A : Option Addr) (cv : Nat) (hcl : c.length ≤ 1000) (w : World) (hH : SeaAt w w.heap.size L s) (hI : IntsAt w w.heap.size A c) : Calls Try.prog 26 #[L.enc s, .slice A c.length cv] w fun e w' => e = .returned (.tuple #[.int .i64 (safeRet s c).1, .int .i64 (safeRet s c).2]) ∧ Below w.heap.size w w' := by
  have hbw := al_below w (.cells #[.int .i64 s.wl, .int .i64 s.wh, .slice L.Ap s.ps.length L.cp, .slice L.Ab s.bs.length L.cb] 44)
  have HB := Lib.hid (SBox.new w L s)
  obtain ⟨c0, c1, c2, c3⟩ := (SBox.new w L s).cells
  obtain ⟨W0, hW0⟩ : ∃ W0, w.alloc (.cells #[.int .i64 s.wl, .int .i64 s.wh, .slice L.Ap s.ps.length L.cp, .slice L.Ab s.bs.length L.cb] 44) = W0 := ⟨_, rfl⟩
  rw [hW0] at hbw HB c0 c1 c2 c3
  have HBW := Lib.hid hbw
  have HW0 := Lib.hid hW0
  have HH := Lib.hid (hH.below hbw)
  have HI := Lib.hid (ints_later hI hbw)
  by_cases h0 : askS s (crewB s c) = 0
  · have hq : safeRet s c = (safeN s c, 0) := by unfold safeRet; rw [if_neg (by simp [h0])]
    rw [hq]
    have H1 := Lib.hid (fun W hW hI => sailing_yes L s c A cv hcl W hW hI h0)
    obtain ⟨hv, hc⟩ := askS_ok h0
    have hcr := crewB_iff.1 hc
    have hS := SOK.ofValid hv
    have H76 := Lib.hid (fun b W hW hH hI => holds_any L s hS b c A cv hcr.2.1 (Nat.le_of_eq hcr.1) W hW hH hI)
    have HCR := Lib.hid hcr
    have HS := Lib.hid hS
    have hw0 := hS.w0
    have hw2 := hS.w1
    have hw3 := hS.w2
    have hpl := hS.pl
    have hl4 : c.length ≤ 4 := by have := hcr.1; omega
    clear hbw hW0 hH hI h0 hv hc hcr hq hS
    cases hsf : safeC s c with
    | true =>
      rw [hsf] at H76
      have HQ := Lib.hid (show safeN s c = 1 by unfold safeN; rw [if_pos hsf])
      clear hsf
      as_aux_lemma =>
      obtain ⟨Ap, cp, Ab, cb⟩ := L
      go_enter Try.func26, Try.ntmps26
      go_upto_region 1 with (fail)
      have e := HW0.out
      rw [e]
      clear e
      go_wp2_with (first
        | (go_at_call 78; refine (H1.out W0 HH.out HI.out).mono ?_; rintro e w1 ⟨⟨b, rfl, hbb, hWB⟩, hb1⟩; have B1 := Lib.hid hb1; have WB := Lib.hid hWB; have HBB := Lib.hid hbb; clear hb1 hWB hbb)
        | (go_at_call 79; refine (H76.out b w1 WB.out (HH.out.below B1.out) (ints_later HI.out B1.out)).mono ?_; rintro e w2 ⟨rfl, hb2⟩; have B2 := Lib.hid (hb0to B1.out hb2); clear hb2))
      go_ret2
      exact ⟨by rw [HQ.out]; rfl, hb0to HBW.out B2.out⟩
    | false =>
      rw [hsf] at H76
      have HQ := Lib.hid (show safeN s c = if neverB s c = true then 2 else 3 by unfold safeN; rw [if_neg (by simp [hsf])])
      clear hsf
      as_aux_lemma =>
      obtain ⟨Ap, cp, Ab, cb⟩ := L
      go_enter Try.func26, Try.ntmps26
      go_upto_region 1 with (fail)
      have e := HW0.out
      rw [e]
      clear e
      go_wp2_with (first
        | (go_at_call 78; refine (H1.out W0 HH.out HI.out).mono ?_; rintro e w1 ⟨⟨b, rfl, hbb, hWB⟩, hb1⟩; have B1 := Lib.hid hb1; have WB := Lib.hid hWB; have HBB := Lib.hid hbb; clear hb1 hWB hbb)
        | (go_at_call 79; refine (H76.out b w1 WB.out (HH.out.below B1.out) (ints_later HI.out B1.out)).mono ?_; rintro e w2 ⟨rfl, hb2⟩; have B2 := Lib.hid (hb0to B1.out hb2); clear hb2))
      go_loopw [8, 27] (fun v i wr => ∃ (k : Nat) (x : Int), k ≤ c.length ∧ i = .int .i64 k ∧ v = .int .i64 x ∧ 0 ≤ x ∧ x ≤ 12 * k ∧ Hid (x = sumH ((capC s c).take k)) ∧ Hid (((capC s c).take k).all loHi = true) ∧ Hid (Below W0.heap.size W0 wr)) (fun _ i _ => c.length - (intOf i).toNat)
      case atStart => exact ⟨0, 0, Nat.zero_le _, rfl, rfl, by omega, by omega, Lib.hid rfl, Lib.hid rfl, B2⟩
      case round =>
        obtain ⟨k, x, hk, rfl, rfl, x0, x1, hX, hall, hb⟩ := hrel
        obtain ⟨g0, g1, g2, g3⟩ := (HB.out.of (hb.out.block _ HB.out.lt)).cells
        by_cases hlt : k < c.length
        · obtain ⟨j, hj⟩ : ∃ j, c[k]? = some j := ⟨_, List.getElem?_eq_getElem hlt⟩
          obtain ⟨j0, j1⟩ := HCR.out.2.1 j (List.mem_of_getElem? hj)
          obtain ⟨jn, rfl⟩ : ∃ jn : Nat, j = jn := ⟨j.toNat, by omega⟩
          have hkp : k < s.ps.length := by have := HCR.out.1; omega
          have hjb : jn < s.bs.length := by omega
          obtain ⟨p, hp⟩ : ∃ p, s.ps[k]? = some p := ⟨_, List.getElem?_eq_getElem hkp⟩
          obtain ⟨z, hz, z0, z1, _, _⟩ := boat_at HS.out hjb
          obtain ⟨pb0, pb1, pb2⟩ := HS.out.p p (List.mem_of_getElem? hp)
          have HCX := Lib.hid (capC_at hj hp hz)
          obtain ⟨bi, oi, eA, blt, d1⟩ := HI.out.at_ hj
          obtain ⟨bp, op, eP, blt2, d2, d3⟩ := HH.out.p.at_ hp
          obtain ⟨bb, ob, eB, blt3, d4, _⟩ := HH.out.b.at_ hz
          have d1' := hb.out.cell (p := ⟨bi, oi + k, none⟩) blt |>.trans d1
          have d2' := hb.out.cell (p := ⟨bp, op + k * 2, none⟩) blt2 |>.trans d2
          have d3' := hb.out.cell (p := ⟨bp, op + k * 2 + 1, none⟩) blt2 |>.trans d3
          have d4' := hb.out.cell (p := ⟨bb, ob + jn * 2, none⟩) blt3 |>.trans d4
          simp only at eP eB
          clear hj hp hz d1 d2 d3 d4
          obtain ⟨p1, p2⟩ := p
          obtain ⟨cy, pn⟩ := z
          simp only at d2' d3' d4' pb0 pb1 pb2 z0 z1
          subst eP
          subst eB
          subst eA
          have hSBX := HB.out.of (hb.out.block _ HB.out.lt)
          have hX1 := hSBX.of (Below.heap_alloc wr (.cells #[.int .i64 p1, .int .i64 p2] 35) _ hSBX.lt)
          have hbX := hb0to hb.out (al_below wr (.cells #[.int .i64 p1, .int .i64 p2] 35))
          have hXh := World.alloc_heap_new wr (.cells #[.int .i64 p1, .int .i64 p2] 35)
          have d5 := below_cell (al_below wr (.cells #[.int .i64 p1, .int .i64 p2] 35)) d4'
          obtain ⟨X, hXX⟩ : ∃ X, wr.alloc (.cells #[.int .i64 p1, .int .i64 p2] 35) = X := ⟨_, rfl⟩
          rw [hXX] at hX1 hbX hXh d5
          obtain ⟨y0, y1, y2, y3⟩ := hX1.cells
          have xc0 : X.cell? ⟨wr.heap.size, 0, none⟩ = some (.int .i64 p1) := cell_of_heap hXh rfl
          have xc1 : X.cell? ⟨wr.heap.size, 1, none⟩ = some (.int .i64 p2) := cell_of_heap hXh rfl
          have xf := frozen_of_heap hXh
          have nb1 : ¬ wr.heap.size = w.heap.size := by have := hSBX.lt; omega
          have nb2 : ¬ w.heap.size = wr.heap.size := by have := hSBX.lt; omega
          have HXX := Lib.hid hXX
          have HBX := Lib.hid hbX
          have HXH := Lib.hid hXh
          clear hSBX hX1 hbX hXh hXX
          have hway : (0 < s.wl ∧ 12 * cy / s.wl < p2 ∧ 12 * cy / s.wl < p1) ∨ (0 < s.wl ∧ 12 * cy / s.wl < p2 ∧ p1 ≤ 12 * cy / s.wl) ∨ (0 < s.wl ∧ p2 ≤ 12 * cy / s.wl ∧ p2 ≤ 12 * cy / s.wl) ∨ (¬ 0 < s.wl ∧ p1 ≤ p2 ∧ p1 ≤ p2) := by
            by_cases a : 0 < s.wl
            · by_cases b : 12 * cy / s.wl < p2
              · by_cases c : 12 * cy / s.wl < p1
                · exact .inl ⟨a, b, c⟩
                · exact .inr (.inl ⟨a, b, by omega⟩)
              · exact .inr (.inr (.inl ⟨a, by omega, by omega⟩))
            · exact .inr (.inr (.inr ⟨a, pb1, pb1⟩))
          have hwc : IntKind.i64.wrap (12 * cy) = 12 * cy := IntWalk.i64_in _ (by omega)
          have h12 : 0 ≤ 12 * cy := by omega
          have hwz : 0 < s.wl → (s.wl == 0) = false := fun h => beq_eq_false_iff_ne.2 (by omega)
          rcases hway with ⟨wa, wb, wc⟩ | ⟨wa, wb, wc⟩ | ⟨wa, wb, wc⟩ | ⟨wa, wb, wc⟩
          · have hwz := hwz wa
            have HV := Lib.hid (show (capX s.wl (p1, p2) cy).2 = 12 * cy / s.wl from capX_pos wa wb)
            have HF := Lib.hid (show neverB s c = true by
              unfold neverB
              have : (capC s c).all loHi = false := by
                rw [List.all_eq_false]
                refine ⟨_, List.mem_of_getElem? HCX.out, ?_⟩
                unfold loHi; rw [HV.out]; simp only [decide_eq_true_eq]; show ¬ p1 ≤ _; omega
              rw [this]; rfl)
            as_aux_lemma =>
            go_upto_region 11 with (fail)
            have e := HXX.out
            rw [e]
            clear e
            go_upto_region 13 with (fail)
            go_region
            go_wp2_with (fail)
            go_ret2
            exact ⟨by rw [HQ.out, if_pos HF.out]; rfl, hb0to HBW.out ((HBX.out.setCell (p := ⟨wr.heap.size, 1, none⟩) hb.out.size (.int .i64 (12 * cy / s.wl))).drew)⟩
          · have hwz := hwz wa
            have HV := Lib.hid (show (capX s.wl (p1, p2) cy).2 = (12 * cy / s.wl) from capX_pos wa wb)
            have HN := Lib.hid (show x + (12 * cy / s.wl) = sumH ((capC s c).take (k + 1)) by rw [sumH_next HCX.out, HV.out, ← hX.out])
            have HA := Lib.hid (show ((capC s c).take (k + 1)).all loHi = true by
              rw [take_nextP HCX.out, List.all_append, hall.out]
              have : loHi (capX s.wl (p1, p2) cy) = true := by
                unfold loHi; rw [HV.out]; exact decide_eq_true (by show p1 ≤ _; omega)
              simp [this])
            have hwv : IntKind.i64.wrap (x + (12 * cy / s.wl)) = x + (12 * cy / s.wl) := IntWalk.i64_in _ (by omega)
            as_aux_lemma =>
            go_upto_region 11 with (fail)
            have e := HXX.out
            rw [e]
            clear e
            go_upto_region 13 with (fail)
            go_region
            go_wp2_with (fail)
            go_roundw
            case rel => exact ⟨k + 1, x + (12 * cy / s.wl), by omega, by go_num, rfl, by omega, by omega, HN, HA, Lib.hid ((HBX.out.setCell (p := ⟨wr.heap.size, 1, none⟩) hb.out.size (.int .i64 ((12 * cy / s.wl)))).drew)⟩
            case measure => simp [intOf]; omega
          · have hwz := hwz wa
            have HV := Lib.hid (show (capX s.wl (p1, p2) cy).2 = p2 from capX_pos2 wa wb)
            have HN := Lib.hid (show x + p2 = sumH ((capC s c).take (k + 1)) by rw [sumH_next HCX.out, HV.out, ← hX.out])
            have HA := Lib.hid (show ((capC s c).take (k + 1)).all loHi = true by
              rw [take_nextP HCX.out, List.all_append, hall.out]
              have : loHi (capX s.wl (p1, p2) cy) = true := by
                unfold loHi; rw [HV.out]; exact decide_eq_true (by show p1 ≤ _; omega)
              simp [this])
            have hwv : IntKind.i64.wrap (x + p2) = x + p2 := IntWalk.i64_in _ (by omega)
            as_aux_lemma =>
            go_upto_region 11 with (fail)
            have e := HXX.out
            rw [e]
            clear e
            go_upto_region 13 with (fail)
            go_region
            go_wp2_with (fail)
            go_roundw
            case rel => exact ⟨k + 1, x + p2, by omega, by go_num, rfl, by omega, by omega, HN, HA, Lib.hid ((HBX.out.setCell (p := ⟨wr.heap.size, 1, none⟩) hb.out.size (.int .i64 (p2))).drew)⟩
            case measure => simp [intOf]; omega
          · clear hwz
            have HV := Lib.hid (show (capX s.wl (p1, p2) cy).2 = p2 from capX_neg wa)
            have HN := Lib.hid (show x + p2 = sumH ((capC s c).take (k + 1)) by rw [sumH_next HCX.out, HV.out, ← hX.out])
            have HA := Lib.hid (show ((capC s c).take (k + 1)).all loHi = true by
              rw [take_nextP HCX.out, List.all_append, hall.out]
              have : loHi (capX s.wl (p1, p2) cy) = true := by
                unfold loHi; rw [HV.out]; exact decide_eq_true (by show p1 ≤ _; omega)
              simp [this])
            have hwv : IntKind.i64.wrap (x + p2) = x + p2 := IntWalk.i64_in _ (by omega)
            as_aux_lemma =>
            go_upto_region 11 with (fail)
            have e := HXX.out
            rw [e]
            clear e
            go_wp2_with (fail)
            go_roundw
            case rel => exact ⟨k + 1, x + p2, by omega, by go_num, rfl, by omega, by omega, HN, HA, Lib.hid HBX.out⟩
            case measure => simp [intOf]; omega
        · obtain rfl : k = c.length := by omega
          have hlen : (capC s c).take c.length = capC s c := List.take_of_length_le (by rw [capC_len HCR.out.1]; exact Nat.le_refl _)
          have hX2 := hX.out
          have hall2 := hall.out
          rw [hlen] at hX2 hall2
          have HX := Lib.hid hX2
          have HALL := Lib.hid hall2
          clear hX hall hlen hX2 hall2
          by_cases h12 : x < 12
          · have hd : decide (x < 12) = true := decide_eq_true h12
            have HF := Lib.hid (show neverB s c = true by unfold neverB; rw [HALL.out, ← HX.out]; simp; omega)
            clear h12
            as_aux_lemma =>
            go_wp2_with (fail)
            go_ret2
            exact ⟨by rw [HQ.out, if_pos HF.out]; rfl, hb0to HBW.out hb.out⟩
          · have hd : decide (x < 12) = false := decide_eq_false h12
            have HF := Lib.hid (show neverB s c = false by unfold neverB; rw [HALL.out, ← HX.out]; simp; omega)
            clear h12
            as_aux_lemma =>
            go_wp2_with (fail)
            go_ret2
            exact ⟨by rw [HQ.out, if_neg (by rw [HF.out]; decide)]; rfl, hb0to HBW.out hb.out⟩
  · have HQ := Lib.hid (show safeRet s c = (0, askS s (crewB s c)) by unfold safeRet; rw [if_pos h0])
    have H1 := Lib.hid (fun W hW hI => sailing_no L s c A cv hcl W hW hI h0)
    obtain ⟨er, her⟩ : ∃ x, x = askS s (crewB s c) := ⟨_, rfl⟩
    rw [← her] at H1 HQ h0
    have hd : (er != 0) = true := bne_iff_ne.2 h0
    clear hbw hW0 hH hI h0 her
    obtain ⟨Ap, cp, Ab, cb⟩ := L
    go_enter Try.func26, Try.ntmps26
    go_upto_region 1 with (fail)
    have e := HW0.out
    rw [e]
    clear e
    go_wp2_with (go_at_call 78; refine (H1.out W0 HH.out HI.out).mono ?_; rintro e w1 ⟨rfl, hb1⟩; have B1 := Lib.hid hb1; clear hb1)
    go_ret2
    exact ⟨by rw [HQ.out]; rfl, hb0to HBW.out B1.out⟩
open Go.RowKit

end Go.Proofs.Ytmbcpmnigggbaaa.Li
