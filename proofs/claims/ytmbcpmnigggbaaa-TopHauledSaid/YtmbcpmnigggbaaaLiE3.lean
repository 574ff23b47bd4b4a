import Derived.Test.YtmbcpmnigggbaaaLiD3
import Derived.Laws.AppendOwn
import Derived.Laws.AppendOwnNone
import Derived.Maps.AppendAt
import Derived.OwnWalk
import Derived.WalkMore
import Derived.Deep.LoopGhost
namespace Go.Proofs.Ytmbcpmnigggbaaa.Li
open Go.RowKit

/-! Lifts 67, Most 57, Cheap 33, Crew 32. -/
/-- What Lifts returns. -/
def liftsRet (s : Sea) (c : List Int) : Int × Int := if askS s (crewB s c) ≠ 0 then (0, askS s (crewB s c)) else (liftS s c, 0)
/-- What Most returns. -/
def mostRet (s : Sea) : Int × Int := if askS s true ≠ 0 then (0, askS s true) else if mostS s < 0 then (0, 3) else (mostS s, 0)
/-- What Cheap returns. -/
def cheapRet (s : Sea) : Int × Int := if askS s true ≠ 0 then (0, askS s true) else match cheapS s with | none => (0, 3) | some (_, n) => (n, 0)
/-- What Crew returns. -/
def crewRet (s : Sea) : List Int × Int := if askS s true ≠ 0 then ([], askS s true) else match cheapS s with | none => ([], 3) | some (c, _) => (c, 0)
theorem IntsFrom.mono {W : World} {B B' : Nat} {A : Option Addr} {l : List Int} (h : IntsFrom W B A l) (hB : B' ≤ B) : IntsFrom W B' A l := by
  rcases h with h | ⟨b, off, e, h5, h6, h7⟩
  · exact .inl h
  · exact .inr ⟨b, off, e, by omega, h6, h7⟩
/-- The same, and how long the slice may grow. -/
def ListRetC (B : Nat) (w' : World) (e : Ending) (r : List Int × Int) : Prop := ∃ A cp, e = .returned (.tuple #[.slice A r.1.length cp, .int .i64 r.2]) ∧ IntsFrom w' B A r.1 ∧ r.1.length ≤ cp
theorem listRetC_nil {B : Nat} {w' : World} {er : Int} : ListRetC B w' (.returned (.tuple #[.slice none 0 0, .int .i64 er])) ([], er) := ⟨none, 0, rfl, .inl ⟨rfl, rfl⟩, Nat.le_refl _⟩
set_option maxRecDepth 100000 in
set_option maxHeartbeats 4000000 in
theorem Lifts_any (L : SL) (s : Sea) (c : List Int) (A : Option Addr) (cv : Nat) (hcl : c.length ≤ 1000) (w : World) (hH : SeaAt w w.heap.size L s) (hI : IntsAt w w.heap.size A c) : Calls Try.prog 27 #[L.enc s, .slice A c.length cv] w fun e w' => e = .returned (.tuple #[.int .i64 (liftsRet s c).1, .int .i64 (liftsRet s c).2]) ∧ Below w.heap.size w w' := by
  have hbw := al_below w (.cells #[.int .i64 s.wl, .int .i64 s.wh, .slice L.Ap s.ps.length L.cp, .slice L.Ab s.bs.length L.cb] 44)
  have HB := Lib.hid (SBox.new w L s)
  obtain ⟨c0, c1, c2, c3⟩ := (SBox.new w L s).cells
  obtain ⟨W0, hW0⟩ : ∃ W0, w.alloc (.cells #[.int .i64 s.wl, .int .i64 s.wh, .slice L.Ap s.ps.length L.cp, .slice L.Ab s.bs.length L.cb] 44) = W0 := ⟨_, rfl⟩
  rw [hW0] at hbw HB c0 c1 c2 c3
  have HBW := Lib.hid hbw
  have HW0 := Lib.hid hW0
  have HH := Lib.hid (hH.below hbw)
  have HI := Lib.hid (ints_later hI hbw)
  by_cases h0 : askS s (crewB s c) = 0
  · have HQ := Lib.hid (show liftsRet s c = (liftS s c, 0) by unfold liftsRet; rw [if_neg (by simp [h0])])
    have H1 := Lib.hid (fun W hW hI => sailing_yes L s c A cv hcl W hW hI h0)
    obtain ⟨hv, hc⟩ := askS_ok h0
    have hcr := crewB_iff.1 hc
    have H84 := Lib.hid (fun b W hW hb hH hI => lifts_any L s (SOK.ofValid hv) b c A cv hcr.2.1 (Nat.le_of_eq hcr.1) W hW hb hH hI)
    clear hbw hW0 hH hI h0 hv hc hcr
    obtain ⟨Ap, cp, Ab, cb⟩ := L
    go_enter Try.func27, Try.ntmps27
    go_upto_region 1 with (fail)
    have e := HW0.out
    rw [e]
    clear e
    go_wp2_with (first
      | (go_at_call 78; refine (H1.out W0 HH.out HI.out).mono ?_; rintro e w1 ⟨⟨b, rfl, hbb, hWB⟩, hb1⟩; have B1 := Lib.hid hb1; have WB := Lib.hid hWB; have HBB := Lib.hid hbb; clear hb1 hWB hbb)
      | (go_at_call 80; refine (H84.out b w1 WB.out WB.out.lt (HH.out.below B1.out) (ints_later HI.out B1.out)).mono ?_; rintro e w2 ⟨rfl, hb2⟩; have B2 := Lib.hid (hb0to B1.out hb2); clear hb2))
    go_ret2
    exact ⟨by rw [HQ.out]; rfl, hb0to HBW.out B2.out⟩
  · have HQ := Lib.hid (show liftsRet s c = (0, askS s (crewB s c)) by unfold liftsRet; rw [if_pos h0])
    have H1 := Lib.hid (fun W hW hI => sailing_no L s c A cv hcl W hW hI h0)
    obtain ⟨er, her⟩ : ∃ x, x = askS s (crewB s c) := ⟨_, rfl⟩
    rw [← her] at H1 HQ h0
    have hd : (er != 0) = true := bne_iff_ne.2 h0
    clear hbw hW0 hH hI h0 her
    obtain ⟨Ap, cp, Ab, cb⟩ := L
    go_enter Try.func27, Try.ntmps27
    go_upto_region 1 with (fail)
    have e := HW0.out
    rw [e]
    clear e
    go_wp2_with (go_at_call 78; refine (H1.out W0 HH.out HI.out).mono ?_; rintro e w1 ⟨rfl, hb1⟩; have B1 := Lib.hid hb1; clear hb1)
    go_ret2
    exact ⟨by rw [HQ.out]; rfl, hb0to HBW.out B1.out⟩
set_option maxRecDepth 100000 in
set_option maxHeartbeats 4000000 in
theorem Most_any (L : SL) (s : Sea) (w : World) (hH : SeaAt w w.heap.size L s) : Calls Try.prog 23 #[L.enc s] w fun e w' => e = .returned (.tuple #[.int .i64 (mostRet s).1, .int .i64 (mostRet s).2]) ∧ Below w.heap.size w w' := by
  have hbw := al_below w (.cells #[.int .i64 s.wl, .int .i64 s.wh, .slice L.Ap s.ps.length L.cp, .slice L.Ab s.bs.length L.cb] 44)
  have HB := Lib.hid (SBox.new w L s)
  obtain ⟨c0, c1, c2, c3⟩ := (SBox.new w L s).cells
  obtain ⟨W0, hW0⟩ : ∃ W0, w.alloc (.cells #[.int .i64 s.wl, .int .i64 s.wh, .slice L.Ap s.ps.length L.cp, .slice L.Ab s.bs.length L.cb] 44) = W0 := ⟨_, rfl⟩
  rw [hW0] at hbw HB c0 c1 c2 c3
  have HBW := Lib.hid hbw
  have HW0 := Lib.hid hW0
  have HH := Lib.hid (hH.below hbw)
  by_cases h0 : askS s true = 0
  · have hq : mostRet s = if mostS s < 0 then (0, 3) else (mostS s, 0) := by unfold mostRet; rw [if_neg (by simp [h0])]
    have H1 := Lib.hid (fun W hW => open_yes L s true W hW h0)
    have hv := (askS_ok h0).1
    have H90 := Lib.hid (fun b W hW hH => most_any L s (SOK.ofValid hv) b W hW hH)
    generalize mostS s = m at hq H90
    by_cases hlt : m < 0
    · rw [if_pos hlt] at hq
      have HQ := Lib.hid hq
      clear hbw hW0 hH h0 hv hq
      obtain ⟨Ap, cp, Ab, cb⟩ := L
      go_enter Try.func23, Try.ntmps23
      go_upto_region 1 with (fail)
      have e := HW0.out
      rw [e]
      clear e
      go_wp2_with (first
        | (go_at_call 73; refine (H1.out W0 HH.out).mono ?_; rintro e w1 ⟨⟨b, rfl, hbb, hWB⟩, hb1⟩; have B1 := Lib.hid hb1; have WB := Lib.hid hWB; have HBB := Lib.hid hbb; clear hb1 hWB hbb)
        | (go_at_call 74; refine (H90.out b w1 WB.out (HH.out.below B1.out)).mono ?_; rintro e w2 ⟨rfl, hb2⟩; have B2 := Lib.hid (hb0to B1.out hb2); clear hb2))
      go_ret2
      exact ⟨by rw [HQ.out]; try rfl, hb0to HBW.out B2.out⟩
    · rw [if_neg hlt] at hq
      have HQ := Lib.hid hq
      clear hbw hW0 hH h0 hv hq
      obtain ⟨Ap, cp, Ab, cb⟩ := L
      go_enter Try.func23, Try.ntmps23
      go_upto_region 1 with (fail)
      have e := HW0.out
      rw [e]
      clear e
      go_wp2_with (first
        | (go_at_call 73; refine (H1.out W0 HH.out).mono ?_; rintro e w1 ⟨⟨b, rfl, hbb, hWB⟩, hb1⟩; have B1 := Lib.hid hb1; have WB := Lib.hid hWB; have HBB := Lib.hid hbb; clear hb1 hWB hbb)
        | (go_at_call 74; refine (H90.out b w1 WB.out (HH.out.below B1.out)).mono ?_; rintro e w2 ⟨rfl, hb2⟩; have B2 := Lib.hid (hb0to B1.out hb2); clear hb2))
      go_ret2
      exact ⟨by rw [HQ.out]; try rfl, hb0to HBW.out B2.out⟩
  · have HQ := Lib.hid (show mostRet s = (0, askS s true) by unfold mostRet; rw [if_pos h0])
    have H1 := Lib.hid (fun W hW => open_no L s true W hW h0)
    obtain ⟨er, her⟩ : ∃ x, x = askS s true := ⟨_, rfl⟩
    rw [← her] at H1 HQ h0
    have hd : (er != 0) = true := bne_iff_ne.2 h0
    clear hbw hW0 hH h0 her
    obtain ⟨Ap, cp, Ab, cb⟩ := L
    go_enter Try.func23, Try.ntmps23
    go_upto_region 1 with (fail)
    have e := HW0.out
    rw [e]
    clear e
    go_wp2_with (go_at_call 73; refine (H1.out W0 HH.out).mono ?_; rintro e w1 ⟨rfl, hb1⟩; have B1 := Lib.hid hb1; clear hb1)
    go_ret2
    exact ⟨by rw [HQ.out]; rfl, hb0to HBW.out B1.out⟩
set_option maxRecDepth 100000 in
set_option maxHeartbeats 4000000 in
theorem Cheap_any (L : SL) (s : Sea) (w : World) (hH : SeaAt w w.heap.size L s) : Calls Try.prog 24 #[L.enc s] w fun e w' => e = .returned (.tuple #[.int .i64 (cheapRet s).1, .int .i64 (cheapRet s).2]) ∧ Below w.heap.size w w' := by
  have hbw := al_below w (.cells #[.int .i64 s.wl, .int .i64 s.wh, .slice L.Ap s.ps.length L.cp, .slice L.Ab s.bs.length L.cb] 44)
  have HB := Lib.hid (SBox.new w L s)
  obtain ⟨c0, c1, c2, c3⟩ := (SBox.new w L s).cells
  obtain ⟨W0, hW0⟩ : ∃ W0, w.alloc (.cells #[.int .i64 s.wl, .int .i64 s.wh, .slice L.Ap s.ps.length L.cp, .slice L.Ab s.bs.length L.cb] 44) = W0 := ⟨_, rfl⟩
  rw [hW0] at hbw HB c0 c1 c2 c3
  have HBW := Lib.hid hbw
  have HW0 := Lib.hid hW0
  have HH := Lib.hid (hH.below hbw)
  by_cases h0 : askS s true = 0
  · have H1 := Lib.hid (fun W hW => open_yes L s true W hW h0)
    have hv := (askS_ok h0).1
    have H79 := Lib.hid (fun b W hW hH => cheapest_any L s (SOK.ofValid hv) b W hW hH)
    cases hcs : cheapS s with
    | none =>
      have HQ := Lib.hid (show cheapRet s = (0, 3) by unfold cheapRet; rw [if_neg (by simp [h0]), hcs])
      have HCS := Lib.hid hcs
      clear hbw hW0 hH h0 hv hcs
      obtain ⟨Ap, cp, Ab, cb⟩ := L
      go_enter Try.func24, Try.ntmps24
      go_upto_region 1 with (fail)
      have e := HW0.out
      rw [e]
      clear e
      go_wp2_with (first
        | (go_at_call 73; refine (H1.out W0 HH.out).mono ?_; rintro e w1 ⟨⟨b, rfl, hbb, hWB⟩, hb1⟩; have B1 := Lib.hid hb1; have WB := Lib.hid hWB; have HBB := Lib.hid hbb; clear hb1 hWB hbb)
        | (go_at_call 75; refine (H79.out b w1 WB.out (HH.out.below B1.out)).mono ?_; rintro e w2 ⟨best, n, rfl, hch, hb2⟩; have B2 := Lib.hid (hb0to B1.out hb2); rw [HCS.out] at hch; obtain ⟨rfl, rfl⟩ := hch; clear hb2))
      go_ret2
      exact ⟨by rw [HQ.out]; try rfl, hb0to HBW.out B2.out⟩
    | some cn =>
      obtain ⟨c, m⟩ := cn
      have HQ := Lib.hid (show cheapRet s = (m, 0) by unfold cheapRet; rw [if_neg (by simp [h0]), hcs])
      have HCS := Lib.hid hcs
      clear hbw hW0 hH h0 hv hcs
      obtain ⟨Ap, cp, Ab, cb⟩ := L
      go_enter Try.func24, Try.ntmps24
      go_upto_region 1 with (fail)
      have e := HW0.out
      rw [e]
      clear e
      go_wp2_with (first
        | (go_at_call 73; refine (H1.out W0 HH.out).mono ?_; rintro e w1 ⟨⟨b, rfl, hbb, hWB⟩, hb1⟩; have B1 := Lib.hid hb1; have WB := Lib.hid hWB; have HBB := Lib.hid hbb; clear hb1 hWB hbb)
        | (go_at_call 75; refine (H79.out b w1 WB.out (HH.out.below B1.out)).mono ?_; rintro e w2 ⟨best, n, rfl, hch, hb2⟩; have B2 := Lib.hid (hb0to B1.out hb2); rw [HCS.out] at hch; obtain ⟨rfl, hm0, A2, c2, rfl, hA2, hcap⟩ := hch; have HA2 := Lib.hid hA2; have HCAP := Lib.hid hcap; clear hcap; have hmd : decide (n < 0) = false := decide_eq_false (Int.not_lt.2 hm0); clear hA2; clear hb2))
      go_ret2
      exact ⟨by rw [HQ.out]; try rfl, hb0to HBW.out B2.out⟩
  · have HQ := Lib.hid (show cheapRet s = (0, askS s true) by unfold cheapRet; rw [if_pos h0])
    have H1 := Lib.hid (fun W hW => open_no L s true W hW h0)
    obtain ⟨er, her⟩ : ∃ x, x = askS s true := ⟨_, rfl⟩
    rw [← her] at H1 HQ h0
    have hd : (er != 0) = true := bne_iff_ne.2 h0
    clear hbw hW0 hH h0 her
    obtain ⟨Ap, cp, Ab, cb⟩ := L
    go_enter Try.func24, Try.ntmps24
    go_upto_region 1 with (fail)
    have e := HW0.out
    rw [e]
    clear e
    go_wp2_with (go_at_call 73; refine (H1.out W0 HH.out).mono ?_; rintro e w1 ⟨rfl, hb1⟩; have B1 := Lib.hid hb1; clear hb1)
    go_ret2
    exact ⟨by rw [HQ.out]; rfl, hb0to HBW.out B1.out⟩
set_option maxRecDepth 100000 in
set_option maxHeartbeats 4000000 in
theorem Crew_any (L : SL) (s : Sea) (w : World) (hH : SeaAt w w.heap.size L s) : Calls Try.prog 82 #[L.enc s] w fun e w' => ListRetC w.heap.size w' e (crewRet s) ∧ Below w.heap.size w w' := by
  have hbw := al_below w (.cells #[.int .i64 s.wl, .int .i64 s.wh, .slice L.Ap s.ps.length L.cp, .slice L.Ab s.bs.length L.cb] 44)
  have HB := Lib.hid (SBox.new w L s)
  obtain ⟨c0, c1, c2, c3⟩ := (SBox.new w L s).cells
  obtain ⟨W0, hW0⟩ : ∃ W0, w.alloc (.cells #[.int .i64 s.wl, .int .i64 s.wh, .slice L.Ap s.ps.length L.cp, .slice L.Ab s.bs.length L.cb] 44) = W0 := ⟨_, rfl⟩
  rw [hW0] at hbw HB c0 c1 c2 c3
  have HBW := Lib.hid hbw
  have HW0 := Lib.hid hW0
  have HH := Lib.hid (hH.below hbw)
  by_cases h0 : askS s true = 0
  · have H1 := Lib.hid (fun W hW => open_yes L s true W hW h0)
    have hv := (askS_ok h0).1
    have H79 := Lib.hid (fun b W hW hH => cheapest_any L s (SOK.ofValid hv) b W hW hH)
    cases hcs : cheapS s with
    | none =>
      have HQ := Lib.hid (show crewRet s = ([], 3) by unfold crewRet; rw [if_neg (by simp [h0]), hcs])
      have HCS := Lib.hid hcs
      clear hbw hW0 hH h0 hv hcs
      obtain ⟨Ap, cp, Ab, cb⟩ := L
      go_enter Try.func82, Try.ntmps82
      go_upto_region 1 with (fail)
      have e := HW0.out
      rw [e]
      clear e
      go_wp2_with (first
        | (go_at_call 73; refine (H1.out W0 HH.out).mono ?_; rintro e w1 ⟨⟨b, rfl, hbb, hWB⟩, hb1⟩; have B1 := Lib.hid hb1; have WB := Lib.hid hWB; have HBB := Lib.hid hbb; clear hb1 hWB hbb)
        | (go_at_call 75; refine (H79.out b w1 WB.out (HH.out.below B1.out)).mono ?_; rintro e w2 ⟨best, n, rfl, hch, hb2⟩; have B2 := Lib.hid (hb0to B1.out hb2); rw [HCS.out] at hch; obtain ⟨rfl, rfl⟩ := hch; clear hb2))
      go_ret2
      exact ⟨by rw [HQ.out]; exact listRetC_nil, hb0to HBW.out B2.out⟩
    | some cn =>
      obtain ⟨c, m⟩ := cn
      have HQ := Lib.hid (show crewRet s = (c, 0) by unfold crewRet; rw [if_neg (by simp [h0]), hcs])
      have HCS := Lib.hid hcs
      clear hbw hW0 hH h0 hv hcs
      obtain ⟨Ap, cp, Ab, cb⟩ := L
      go_enter Try.func82, Try.ntmps82
      go_upto_region 1 with (fail)
      have e := HW0.out
      rw [e]
      clear e
      go_wp2_with (first
        | (go_at_call 73; refine (H1.out W0 HH.out).mono ?_; rintro e w1 ⟨⟨b, rfl, hbb, hWB⟩, hb1⟩; have B1 := Lib.hid hb1; have WB := Lib.hid hWB; have HBB := Lib.hid hbb; clear hb1 hWB hbb)
        | (go_at_call 75; refine (H79.out b w1 WB.out (HH.out.below B1.out)).mono ?_; rintro e w2 ⟨best, n, rfl, hch, hb2⟩; have B2 := Lib.hid (hb0to B1.out hb2); rw [HCS.out] at hch; obtain ⟨rfl, hm0, A2, c2, rfl, hA2, hcap⟩ := hch; have HA2 := Lib.hid hA2; have HCAP := Lib.hid hcap; clear hcap; have hmd : decide (n < 0) = false := decide_eq_false (Int.not_lt.2 hm0); clear hA2; clear hb2))
      go_ret2
      exact ⟨by rw [HQ.out]; exact ⟨_, _, rfl, HA2.out.mono (Nat.le_trans HBW.out.size B1.out.size), HCAP.out⟩, hb0to HBW.out B2.out⟩
  · have HQ := Lib.hid (show crewRet s = ([], askS s true) by unfold crewRet; rw [if_pos h0])
    have H1 := Lib.hid (fun W hW => open_no L s true W hW h0)
    obtain ⟨er, her⟩ : ∃ x, x = askS s true := ⟨_, rfl⟩
    rw [← her] at H1 HQ h0
    have hd : (er != 0) = true := bne_iff_ne.2 h0
    clear hbw hW0 hH h0 her
    obtain ⟨Ap, cp, Ab, cb⟩ := L
    go_enter Try.func82, Try.ntmps82
    go_upto_region 1 with (fail)
    have e := HW0.out
    rw [e]
    clear e
    go_wp2_with (go_at_call 73; refine (H1.out W0 HH.out).mono ?_; rintro e w1 ⟨rfl, hb1⟩; have B1 := Lib.hid hb1; clear hb1)
    go_ret2
    exact ⟨by rw [HQ.out]; exact listRetC_nil, hb0to HBW.out B1.out⟩
open Go.RowKit

/-! Safe 26. -/
/-- The carries of a crew's boats. -/
def carriesL (s : Sea) (c : List Int) : List Int := c.map fun j => carryN s j.toNat
def capC (s : Sea) (c : List Int) : List (Int × Int) := capL s.wl s.ps (carriesL s c)
def loHi (x : Int × Int) : Bool := decide (x.1 ≤ x.2)
/-- In each truth some boat of a crew is over its load. -/
def neverB (s : Sea) (c : List Int) : Bool := !((capC s c).all loHi && decide (12 ≤ sumH (capC s c)))
def safeN (s : Sea) (c : List Int) : Int := if safeC s c = true then 1 else if neverB s c = true then 2 else 3
/-- What Safe returns. -/
def safeRet (s : Sea) (c : List Int) : Int × Int := if askS s (crewB s c) ≠ 0 then (0, askS s (crewB s c)) else (safeN s c, 0)
theorem capC_at {s : Sea} {c : List Int} {k j : Nat} {p z : Int × Int} (hc : c[k]? = some (j : Int)) (hp : s.ps[k]? = some p) (hz : s.bs[j]? = some z) : (capC s c)[k]? = some (capX s.wl p z.1) := by
  unfold capC capL carriesL
  rw [List.getElem?_zipWith]
  simp [hc, hp, boat_eq hz]
theorem capC_len {s : Sea} {c : List Int} (h : c.length = s.ps.length) : (capC s c).length = c.length := by
  unfold capC capL carriesL
  simp [h]
theorem capX_pos {w : Int} {p : Int × Int} {c : Int} (h : 0 < w) (h2 : 12 * c / w < p.2) : (capX w p c).2 = 12 * c / w := by
  unfold capX; simp only [if_pos h]; omega
theorem capX_pos2 {w : Int} {p : Int × Int} {c : Int} (h : 0 < w) (h2 : p.2 ≤ 12 * c / w) : (capX w p c).2 = p.2 := by
  unfold capX; simp only [if_pos h]; omega
theorem capX_neg {w : Int} {p : Int × Int} {c : Int} (h : ¬ 0 < w) : (capX w p c).2 = p.2 := by
  unfold capX; simp only [if_neg h]
set_option maxRecDepth 100000 in
set_option maxHeartbeats 4000000 in
theorem Safe_any (L : SL) (s : Sea) (c : List Int) (A : Option Addr) (cv : Nat) (hcl : c.length ≤ 1000) (w : World) (hH : SeaAt w w.heap.size L s) (hI : IntsAt w w.heap.size A c) : Calls Try.prog 26 #[L.enc s, .slice A c.length cv] w fun e w' => e = .returned (.tuple #[.int .i64 (safeRet s c).1, .int .i64 (safeRet s c).2]) ∧ Below w.heap.size w w' := by
  have hbw := al_below w (.cells #[.int .i64 s.wl, .int .i64 s.wh, .slice L.Ap s.ps.length L.cp, .slice L.Ab s.bs.length L.cb] 44)
  have HB := Lib.hid (SBox.new w L s)
  obtain ⟨c0, c1, c2, c3⟩ := (SBox.new w L s).cells
  obtain ⟨W0, hW0⟩ : ∃ W0, w.alloc (.cells #[.int .i64 s.wl, .int .i64 s.wh, .slice L.Ap s.ps.length L.cp, .slice L.Ab s.bs.length L.cb] 44) = W0 := ⟨_, rfl⟩
  rw [hW0] at hbw HB c0 c1 c2 c3
  have HBW := Lib.hid hbw
  have HW0 := Lib.hid hW0
  have HH := Lib.hid (hH.below hbw)
  have HI := Lib.hid (ints_later hI hbw)
  by_cases h0 : askS s (crewB s c) = 0
  · have hq : safeRet s c = (safeN s c, 0) := by unfold safeRet; rw [if_neg (by simp [h0])]
    rw [hq]
    have H1 := Lib.hid (fun W hW hI => sailing_yes L s c A cv hcl W hW hI h0)
    obtain ⟨hv, hc⟩ := askS_ok h0
    have hcr := crewB_iff.1 hc
    have hS := SOK.ofValid hv
    have H76 := Lib.hid (fun b W hW hH hI => holds_any L s hS b c A cv hcr.2.1 (Nat.le_of_eq hcr.1) W hW hH hI)
    have HCR := Lib.hid hcr
    have HS := Lib.hid hS
    have hw0 := hS.w0
    have hw2 := hS.w1
    have hw3 := hS.w2
    have hpl := hS.pl
    have hl4 : c.length ≤ 4 := by have := hcr.1; omega
    clear hbw hW0 hH hI h0 hv hc hcr hq hS
    cases hsf : safeC s c with
    | true =>
      rw [hsf] at H76
      have HQ := Lib.hid (show safeN s c = 1 by unfold safeN; rw [if_pos hsf])
      clear hsf
      as_aux_lemma =>
      obtain ⟨Ap, cp, Ab, cb⟩ := L
      go_enter Try.func26, Try.ntmps26
      go_upto_region 1 with (fail)
      have e := HW0.out
      rw [e]
      clear e
      go_wp2_with (first
        | (go_at_call 78; refine (H1.out W0 HH.out HI.out).mono ?_; rintro e w1 ⟨⟨b, rfl, hbb, hWB⟩, hb1⟩; have B1 := Lib.hid hb1; have WB := Lib.hid hWB; have HBB := Lib.hid hbb; clear hb1 hWB hbb)
        | (go_at_call 79; refine (H76.out b w1 WB.out (HH.out.below B1.out) (ints_later HI.out B1.out)).mono ?_; rintro e w2 ⟨rfl, hb2⟩; have B2 := Lib.hid (hb0to B1.out hb2); clear hb2))
      go_ret2
      exact ⟨by rw [HQ.out]; rfl, hb0to HBW.out B2.out⟩
    | false =>
      rw [hsf] at H76
      have HQ := Lib.hid (show safeN s c = if neverB s c = true then 2 else 3 by unfold safeN; rw [if_neg (by simp [hsf])])
      clear hsf
      as_aux_lemma =>
      obtain ⟨Ap, cp, Ab, cb⟩ := L
      go_enter Try.func26, Try.ntmps26
      go_upto_region 1 with (fail)
      have e := HW0.out
      rw [e]
      clear e
      go_wp2_with (first
        | (go_at_call 78; refine (H1.out W0 HH.out HI.out).mono ?_; rintro e w1 ⟨⟨b, rfl, hbb, hWB⟩, hb1⟩; have B1 := Lib.hid hb1; have WB := Lib.hid hWB; have HBB := Lib.hid hbb; clear hb1 hWB hbb)
        | (go_at_call 79; refine (H76.out b w1 WB.out (HH.out.below B1.out) (ints_later HI.out B1.out)).mono ?_; rintro e w2 ⟨rfl, hb2⟩; have B2 := Lib.hid (hb0to B1.out hb2); clear hb2))
      go_loopw [8, 27] (fun v i wr => ∃ (k : Nat) (x : Int), k ≤ c.length ∧ i = .int .i64 k ∧ v = .int .i64 x ∧ 0 ≤ x ∧ x ≤ 12 * k ∧ Hid (x = sumH ((capC s c).take k)) ∧ Hid (((capC s c).take k).all loHi = true) ∧ Hid (Below W0.heap.size W0 wr)) (fun _ i _ => c.length - (intOf i).toNat)
      case atStart => exact ⟨0, 0, Nat.zero_le _, rfl, rfl, by omega, by omega, Lib.hid rfl, Lib.hid rfl, B2⟩
      case round =>
        obtain ⟨k, x, hk, rfl, rfl, x0, x1, hX, hall, hb⟩ := hrel
        obtain ⟨g0, g1, g2, g3⟩ := (HB.out.of (hb.out.block _ HB.out.lt)).cells
        by_cases hlt : k < c.length
        · obtain ⟨j, hj⟩ : ∃ j, c[k]? = some j := ⟨_, List.getElem?_eq_getElem hlt⟩
          obtain ⟨j0, j1⟩ := HCR.out.2.1 j (List.mem_of_getElem? hj)
          obtain ⟨jn, rfl⟩ : ∃ jn : Nat, j = jn := ⟨j.toNat, by omega⟩
          have hkp : k < s.ps.length := by have := HCR.out.1; omega
          have hjb : jn < s.bs.length := by omega
          obtain ⟨p, hp⟩ : ∃ p, s.ps[k]? = some p := ⟨_, List.getElem?_eq_getElem hkp⟩
          obtain ⟨z, hz, z0, z1, _, _⟩ := boat_at HS.out hjb
          obtain ⟨pb0, pb1, pb2⟩ := HS.out.p p (List.mem_of_getElem? hp)
          have HCX := Lib.hid (capC_at hj hp hz)
          obtain ⟨bi, oi, eA, blt, d1⟩ := HI.out.at_ hj
          obtain ⟨bp, op, eP, blt2, d2, d3⟩ := HH.out.p.at_ hp
          obtain ⟨bb, ob, eB, blt3, d4, _⟩ := HH.out.b.at_ hz
          have d1' := hb.out.cell (p := ⟨bi, oi + k, none⟩) blt |>.trans d1
          have d2' := hb.out.cell (p := ⟨bp, op + k * 2, none⟩) blt2 |>.trans d2
          have d3' := hb.out.cell (p := ⟨bp, op + k * 2 + 1, none⟩) blt2 |>.trans d3
          have d4' := hb.out.cell (p := ⟨bb, ob + jn * 2, none⟩) blt3 |>.trans d4
          simp only at eP eB
          clear hj hp hz d1 d2 d3 d4
          obtain ⟨p1, p2⟩ := p
          obtain ⟨cy, pn⟩ := z
          simp only at d2' d3' d4' pb0 pb1 pb2 z0 z1
          subst eP
          subst eB
          subst eA
          have hSBX := HB.out.of (hb.out.block _ HB.out.lt)
          have hX1 := hSBX.of (Below.heap_alloc wr (.cells #[.int .i64 p1, .int .i64 p2] 35) _ hSBX.lt)
          have hbX := hb0to hb.out (al_below wr (.cells #[.int .i64 p1, .int .i64 p2] 35))
          have hXh := World.alloc_heap_new wr (.cells #[.int .i64 p1, .int .i64 p2] 35)
          have d5 := below_cell (al_below wr (.cells #[.int .i64 p1, .int .i64 p2] 35)) d4'
          obtain ⟨X, hXX⟩ : ∃ X, wr.alloc (.cells #[.int .i64 p1, .int .i64 p2] 35) = X := ⟨_, rfl⟩
          rw [hXX] at hX1 hbX hXh d5
          obtain ⟨y0, y1, y2, y3⟩ := hX1.cells
          have xc0 : X.cell? ⟨wr.heap.size, 0, none⟩ = some (.int .i64 p1) := cell_of_heap hXh rfl
          have xc1 : X.cell? ⟨wr.heap.size, 1, none⟩ = some (.int .i64 p2) := cell_of_heap hXh rfl
          have xf := frozen_of_heap hXh
          have nb1 : ¬ wr.heap.size = w.heap.size := by have := hSBX.lt; omega
          have nb2 : ¬ w.heap.size = wr.heap.size := by have := hSBX.lt; omega
          have HXX := Lib.hid hXX
          have HBX := Lib.hid hbX
          have HXH := Lib.hid hXh
          clear hSBX hX1 hbX hXh hXX
          have hway : (0 < s.wl ∧ 12 * cy / s.wl < p2 ∧ 12 * cy / s.wl < p1) ∨ (0 < s.wl ∧ 12 * cy / s.wl < p2 ∧ p1 ≤ 12 * cy / s.wl) ∨ (0 < s.wl ∧ p2 ≤ 12 * cy / s.wl ∧ p2 ≤ 12 * cy / s.wl) ∨ (¬ 0 < s.wl ∧ p1 ≤ p2 ∧ p1 ≤ p2) := by
            by_cases a : 0 < s.wl
            · by_cases b : 12 * cy / s.wl < p2
              · by_cases c : 12 * cy / s.wl < p1
                · exact .inl ⟨a, b, c⟩
                · exact .inr (.inl ⟨a, b, by omega⟩)
              · exact .inr (.inr (.inl ⟨a, by omega, by omega⟩))
            · exact .inr (.inr (.inr ⟨a, pb1, pb1⟩))
          have hwc : IntKind.i64.wrap (12 * cy) = 12 * cy := IntWalk.i64_in _ (by omega)
          have h12 : 0 ≤ 12 * cy := by omega
          have hwz : 0 < s.wl → (s.wl == 0) = false := fun h => beq_eq_false_iff_ne.2 (by omega)
          rcases hway with ⟨wa, wb, wc⟩ | ⟨wa, wb, wc⟩ | ⟨wa, wb, wc⟩ | ⟨wa, wb, wc⟩
          · have hwz := hwz wa
            have HV := Lib.hid (show (capX s.wl (p1, p2) cy).2 = 12 * cy / s.wl from capX_pos wa wb)
            have HF := Lib.hid (show neverB s c = true by
              unfold neverB
              have : (capC s c).all loHi = false := by
                rw [List.all_eq_false]
                refine ⟨_, List.mem_of_getElem? HCX.out, ?_⟩
                unfold loHi; rw [HV.out]; simp only [decide_eq_true_eq]; show ¬ p1 ≤ _; omega
              rw [this]; rfl)
            as_aux_lemma =>
            go_upto_region 11 with (fail)
            have e := HXX.out
            rw [e]
            clear e
            go_upto_region 13 with (fail)
            go_region
            go_wp2_with (fail)
            go_ret2
            exact ⟨by rw [HQ.out, if_pos HF.out]; rfl, hb0to HBW.out ((HBX.out.setCell (p := ⟨wr.heap.size, 1, none⟩) hb.out.size (.int .i64 (12 * cy / s.wl))).drew)⟩
          · have hwz := hwz wa
            have HV := Lib.hid (show (capX s.wl (p1, p2) cy).2 = (12 * cy / s.wl) from capX_pos wa wb)
            have HN := Lib.hid (show x + (12 * cy / s.wl) = sumH ((capC s c).take (k + 1)) by rw [sumH_next HCX.out, HV.out, ← hX.out])
            have HA := Lib.hid (show ((capC s c).take (k + 1)).all loHi = true by
              rw [take_nextP HCX.out, List.all_append, hall.out]
              have : loHi (capX s.wl (p1, p2) cy) = true := by
                unfold loHi; rw [HV.out]; exact decide_eq_true (by show p1 ≤ _; omega)
              simp [this])
            have hwv : IntKind.i64.wrap (x + (12 * cy / s.wl)) = x + (12 * cy / s.wl) := IntWalk.i64_in _ (by omega)
            as_aux_lemma =>
            go_upto_region 11 with (fail)
            have e := HXX.out
            rw [e]
            clear e
            go_upto_region 13 with (fail)
            go_region
            go_wp2_with (fail)
            go_roundw
            case rel => exact ⟨k + 1, x + (12 * cy / s.wl), by omega, by go_num, rfl, by omega, by omega, HN, HA, Lib.hid ((HBX.out.setCell (p := ⟨wr.heap.size, 1, none⟩) hb.out.size (.int .i64 ((12 * cy / s.wl)))).drew)⟩
            case measure => simp [intOf]; omega
          · have hwz := hwz wa
            have HV := Lib.hid (show (capX s.wl (p1, p2) cy).2 = p2 from capX_pos2 wa wb)
            have HN := Lib.hid (show x + p2 = sumH ((capC s c).take (k + 1)) by rw [sumH_next HCX.out, HV.out, ← hX.out])
            have HA := Lib.hid (show ((capC s c).take (k + 1)).all loHi = true by
              rw [take_nextP HCX.out, List.all_append, hall.out]
              have : loHi (capX s.wl (p1, p2) cy) = true := by
                unfold loHi; rw [HV.out]; exact decide_eq_true (by show p1 ≤ _; omega)
              simp [this])
            have hwv : IntKind.i64.wrap (x + p2) = x + p2 := IntWalk.i64_in _ (by omega)
            as_aux_lemma =>
            go_upto_region 11 with (fail)
            have e := HXX.out
            rw [e]
            clear e
            go_upto_region 13 with (fail)
            go_region
            go_wp2_with (fail)
            go_roundw
            case rel => exact ⟨k + 1, x + p2, by omega, by go_num, rfl, by omega, by omega, HN, HA, Lib.hid ((HBX.out.setCell (p := ⟨wr.heap.size, 1, none⟩) hb.out.size (.int .i64 (p2))).drew)⟩
            case measure => simp [intOf]; omega
          · clear hwz
            have HV := Lib.hid (show (capX s.wl (p1, p2) cy).2 = p2 from capX_neg wa)
            have HN := Lib.hid (show x + p2 = sumH ((capC s c).take (k + 1)) by rw [sumH_next HCX.out, HV.out, ← hX.out])
            have HA := Lib.hid (show ((capC s c).take (k + 1)).all loHi = true by
              rw [take_nextP HCX.out, List.all_append, hall.out]
              have : loHi (capX s.wl (p1, p2) cy) = true := by
                unfold loHi; rw [HV.out]; exact decide_eq_true (by show p1 ≤ _; omega)
              simp [this])
            have hwv : IntKind.i64.wrap (x + p2) = x + p2 := IntWalk.i64_in _ (by omega)
            as_aux_lemma =>
            go_upto_region 11 with (fail)
            have e := HXX.out
            rw [e]
            clear e
            go_wp2_with (fail)
            go_roundw
            case rel => exact ⟨k + 1, x + p2, by omega, by go_num, rfl, by omega, by omega, HN, HA, Lib.hid HBX.out⟩
            case measure => simp [intOf]; omega
        · obtain rfl : k = c.length := by omega
          have hlen : (capC s c).take c.length = capC s c := List.take_of_length_le (by rw [capC_len HCR.out.1]; exact Nat.le_refl _)
          have hX2 := hX.out
          have hall2 := hall.out
          rw [hlen] at hX2 hall2
          have HX := Lib.hid hX2
          have HALL := Lib.hid hall2
          clear hX hall hlen hX2 hall2
          by_cases h12 : x < 12
          · have hd : decide (x < 12) = true := decide_eq_true h12
            have HF := Lib.hid (show neverB s c = true by unfold neverB; rw [HALL.out, ← HX.out]; simp; omega)
            clear h12
            as_aux_lemma =>
            go_wp2_with (fail)
            go_ret2
            exact ⟨by rw [HQ.out, if_pos HF.out]; rfl, hb0to HBW.out hb.out⟩
          · have hd : decide (x < 12) = false := decide_eq_false h12
            have HF := Lib.hid (show neverB s c = false by unfold neverB; rw [HALL.out, ← HX.out]; simp; omega)
            clear h12
            as_aux_lemma =>
            go_wp2_with (fail)
            go_ret2
            exact ⟨by rw [HQ.out, if_neg (by rw [HF.out]; decide)]; rfl, hb0to HBW.out hb.out⟩
  · have HQ := Lib.hid (show safeRet s c = (0, askS s (crewB s c)) by unfold safeRet; rw [if_pos h0])
    have H1 := Lib.hid (fun W hW hI => sailing_no L s c A cv hcl W hW hI h0)
    obtain ⟨er, her⟩ : ∃ x, x = askS s (crewB s c) := ⟨_, rfl⟩
    rw [← her] at H1 HQ h0
    have hd : (er != 0) = true := bne_iff_ne.2 h0
    clear hbw hW0 hH hI h0 her
    obtain ⟨Ap, cp, Ab, cb⟩ := L
    go_enter Try.func26, Try.ntmps26
    go_upto_region 1 with (fail)
    have e := HW0.out
    rw [e]
    clear e
    go_wp2_with (go_at_call 78; refine (H1.out W0 HH.out HI.out).mono ?_; rintro e w1 ⟨rfl, hb1⟩; have B1 := Lib.hid hb1; clear hb1)
    go_ret2
    exact ⟨by rw [HQ.out]; rfl, hb0to HBW.out B1.out⟩
open Go.RowKit

end Go.Proofs.Ytmbcpmnigggbaaa.Li
namespace Go.Proofs.Ytmbcpmnigggbaaa.Li
open Go.RowKit

/-! Appending: numbers, pairs of numbers, and lists of numbers, in memory of the call's own. -/
theorem own_below {W W' : World} {base e size : Nat} {v : Value} {n : Nat} {xs : List Value} {n₀ : Nat} (h : W.ownsRow base e size v n xs) (hg : W.grownBy W' v.ownBlock) (hn : n₀ ≤ W.heap.size) (hb : n₀ ≤ base) : Below n₀ W W' := by
  refine (Below.refl n₀ W).grown hg hn fun j ej => ?_
  rcases h.2 with ⟨rfl, _⟩ | ⟨g, cap, cur, rfl, hb2, _, _⟩
  · simp [Value.ownBlock] at ej
  · obtain rfl : g = j := by simpa [Value.ownBlock] using ej
    omega
/-- The slice v owns the numbers l, in a row of its own (from base on). -/
def Ints (W : World) (base : Nat) (v : Value) (l : List Int) : Prop := W.ownsRow base 3 1 v l.length (l.map (Value.int .i64))
theorem ints_made (w : World) (n₀ : Nat) (hn : n₀ ≤ w.heap.size) : Ints (w.alloc (.cells #[] 3)) n₀ (.slice (some ⟨w.heap.size, 0, none⟩) 0 0) [] :=
  World.ownsRow_made w #[] 0 hn (by unfold maxLen; omega) rfl
/-- What a slice of numbers reads as: with its block. -/
def IntsIn (W : World) (lo hi : Nat) (A : Option Addr) (l : List Int) : Prop :=
  l = [] ∨ ∃ b off, A = some ⟨b, off, none⟩ ∧ lo ≤ b ∧ b < hi ∧ ∀ i x, l[i]? = some x → W.cell? ⟨b, off + i, none⟩ = some (.int .i64 x)
theorem IntsIn.at_ {W : World} {lo hi : Nat} {A : Option Addr} {l : List Int} (h : IntsIn W lo hi A l) : IntsAt W hi A l := by
  rcases h with h | ⟨b, off, h1, _, h2, h3⟩
  · exact .inl h
  · exact .inr ⟨b, off, h1, h2, h3⟩
theorem IntsIn.keep {W W' : World} {lo hi lo' hi' : Nat} {A : Option Addr} {l : List Int} (h : IntsIn W lo hi A l) (h1 : lo' ≤ lo) (h2 : hi ≤ hi') (hk : ∀ b o, lo ≤ b → b < hi → W'.cell? ⟨b, o, none⟩ = W.cell? ⟨b, o, none⟩) : IntsIn W' lo' hi' A l := by
  rcases h with h | ⟨b, off, e, h3, h4, h5⟩
  · exact .inl h
  · exact .inr ⟨b, off, e, by omega, by omega, fun i x hx => by rw [hk _ _ h3 h4]; exact h5 i x hx⟩
theorem IntsIn.below {W W' : World} {lo hi n : Nat} {A : Option Addr} {l : List Int} (h : IntsIn W lo hi A l) (hb : Below n W W') (hn : hi ≤ n) : IntsIn W' lo hi A l :=
  h.keep (Nat.le_refl _) (Nat.le_refl _) fun b o _ hlt => hb.cell (p := ⟨b, o, none⟩) (by show b < n; omega)
theorem Ints.lay {W : World} {base : Nat} {v : Value} {l : List Int} (h : Ints W base v l) : ∃ A c, v = .slice A l.length c ∧ (A = none → c = 0 ∧ l = []) ∧ l.length ≤ c ∧ IntsIn W base W.heap.size A l := by
  rcases h.2 with ⟨rfl, h0⟩ | ⟨g, cap, cur, rfl, hb, hg, h4, h5, h6, h7⟩
  · have : l = [] := List.length_eq_zero_iff.1 h0
    exact ⟨none, 0, by rw [h0], fun _ => ⟨rfl, this⟩, by omega, .inl this⟩
  · refine ⟨some ⟨g, 0, none⟩, cap, rfl, fun h => (by cases h), h4, .inr ⟨g, 0, rfl, hb, (Array.getElem?_eq_some_iff.1 hg).1, fun i x hx => ?_⟩⟩
    have hc := World.ownsRow.cells h (g := g) rfl i (.int .i64 x) (by rw [List.getElem?_map, hx]; rfl)
    rw [addr_add] at hc; exact hc
theorem Ints.below_ {W W' : World} {base n : Nat} {v : Value} {l : List Int} (h : Ints W base v l) (hb : Below n W W') (hn : W.heap.size ≤ n) : Ints W' base v l := by
  refine ⟨h.1, ?_⟩
  rcases h.2 with h2 | ⟨g, cap, cur, e, hb2, hg, h4⟩
  · exact .inl h2
  · exact .inr ⟨g, cap, cur, e, hb2, (hb.block g (Nat.lt_of_lt_of_le (Array.getElem?_eq_some_iff.1 hg).1 hn)).trans hg, h4⟩
theorem Ints.mono {W : World} {base base' : Nat} {v : Value} {l : List Int} (h : Ints W base v l) (hb : base' ≤ base) : Ints W base' v l := by
  refine ⟨h.1, ?_⟩
  rcases h.2 with h2 | ⟨g, cap, cur, e, hb2, hg, h4⟩
  · exact .inl h2
  · exact .inr ⟨g, cap, cur, e, by omega, hg, h4⟩
theorem Ints.alloc {W : World} {base : Nat} {v : Value} {l : List Int} (h : Ints W base v l) (o : Obj) : Ints (W.alloc o) base v l := World.ownsRow.alloc h o

theorem ints_news {w : World} {hi : Nat} {ad : Addr} {l : List Int} (hI : IntsAt w hi (some ad) l) : ∀ j u, (l.map (Value.int .i64))[j]? = some u → w.cell? (ad.add j) = some u := by
  intro j u hj
  rcases hI with rfl | ⟨b, off, e, _, hc⟩
  · simp at hj
  · cases e
    rw [List.getElem?_map] at hj
    cases hx : l[j]? with
    | none => rw [hx] at hj; simp at hj
    | some y =>
      rw [hx] at hj
      simp at hj
      subst hj
      rw [addr_add]
      exact hc j y hx
theorem ints_one (l : List Int) : ∀ u ∈ l.map (Value.int .i64), u.oneCell' = true := by
  intro u hu
  obtain ⟨y, _, rfl⟩ := List.mem_map.1 hu
  rfl
/-! Pairs. -/
def pairCells : List (Int × Int) → List Value
  | [] => []
  | x :: xs => .int .i64 x.1 :: .int .i64 x.2 :: pairCells xs
theorem pairCells_len : ∀ (ns : List (Int × Int)), (pairCells ns).length = ns.length * 2
  | [] => rfl
  | x :: xs => by simp only [pairCells, List.length_cons, pairCells_len xs]; omega
theorem pairCells_one : ∀ (ns : List (Int × Int)), ∀ u ∈ pairCells ns, u.oneCell' = true
  | [], _, h => by simp [pairCells] at h
  | x :: xs, u, h => by
    simp only [pairCells, List.mem_cons] at h
    rcases h with rfl | rfl | h
    · rfl
    · rfl
    · exact pairCells_one xs u h
theorem pairCells_at : ∀ (ns : List (Int × Int)) (i : Nat) (x : Int × Int), ns[i]? = some x → (pairCells ns)[i * 2]? = some (.int .i64 x.1) ∧ (pairCells ns)[i * 2 + 1]? = some (.int .i64 x.2)
  | [], i, x, h => by simp at h
  | y :: ys, 0, x, h => by
    simp at h; subst h; exact ⟨rfl, rfl⟩
  | y :: ys, i + 1, x, h => by
    have := pairCells_at ys i x (by simpa using h)
    have e : (i + 1) * 2 = i * 2 + 1 + 1 := by omega
    rw [e]
    simp only [pairCells, List.getElem?_cons_succ]
    exact this
theorem pairCells_app : ∀ (a b : List (Int × Int)), pairCells (a ++ b) = pairCells a ++ pairCells b
  | [], b => rfl
  | x :: a, b => by simp only [List.cons_append, pairCells, pairCells_app a b]
theorem pairs_news {W : World} {B : Nat} {ad : Addr} {ns : List (Int × Int)} (h : PairsAt W B (some ad) ns) : ∀ j u, (pairCells ns)[j]? = some u → W.cell? (ad.add j) = some u := by
  intro j u hj
  have hlt := (List.getElem?_eq_some_iff.1 hj).1
  rw [pairCells_len] at hlt
  have hi : j / 2 < ns.length := by omega
  obtain ⟨b', off', e, _, c1, c2⟩ := h.at_ (List.getElem?_eq_getElem hi)
  cases e
  obtain ⟨d1, d2⟩ := pairCells_at ns _ _ (List.getElem?_eq_getElem hi)
  have : j = j / 2 * 2 ∨ j = j / 2 * 2 + 1 := by omega
  rcases this with e | e
  · rw [e] at hj ⊢; rw [d1] at hj; cases hj; rw [addr_add]; exact c1
  · rw [e] at hj ⊢; rw [d2] at hj; cases hj; rw [addr_add]; exact c2
/-- The slice v owns the pairs. -/
def OwnsP (W : World) (t : TypeId) (base : Nat) (v : Value) (ns : List (Int × Int)) : Prop := W.ownsRow base t 2 v ns.length (pairCells ns)
theorem OwnsP.lay {W : World} {t : TypeId} {base : Nat} {v : Value} {ns : List (Int × Int)} (h : OwnsP W t base v ns) : ∃ A c, v = .slice A ns.length c ∧ (A = none → c = 0 ∧ ns = []) ∧ PairsAt W W.heap.size A ns := by
  rcases h.2 with ⟨rfl, h0⟩ | ⟨g, cap, cur, rfl, hb, hg, h4, h5, h6, h7⟩
  · have : ns = [] := List.length_eq_zero_iff.1 h0
    exact ⟨none, 0, by rw [h0], fun _ => ⟨rfl, this⟩, .inl this⟩
  · refine ⟨some ⟨g, 0, none⟩, cap, rfl, fun h => (by cases h), .inr ⟨g, 0, rfl, (Array.getElem?_eq_some_iff.1 hg).1, fun i x hx => ?_⟩⟩
    obtain ⟨d1, d2⟩ := pairCells_at ns i x hx
    have c1 := World.ownsRow.cells h (g := g) rfl _ _ d1
    have c2 := World.ownsRow.cells h (g := g) rfl _ _ d2
    rw [addr_add] at c1 c2
    exact ⟨c1, c2⟩
theorem OwnsP.below_ {W W' : World} {t : TypeId} {base n : Nat} {v : Value} {l : List (Int × Int)} (h : OwnsP W t base v l) (hb : Below n W W') (hn : W.heap.size ≤ n) : OwnsP W' t base v l := by
  refine ⟨h.1, ?_⟩
  rcases h.2 with h2 | ⟨g, cap, cur, e, hb2, hg, h4⟩
  · exact .inl h2
  · exact .inr ⟨g, cap, cur, e, hb2, (hb.block g (Nat.lt_of_lt_of_le (Array.getElem?_eq_some_iff.1 hg).1 hn)).trans hg, h4⟩
/-! Lists of lists. -/
/-- The slice at A holds the lists; each lies in a block from lo on. -/
def RowsIn (W : World) (lo hi : Nat) (A : Option Addr) (rs : List (List Int)) : Prop :=
  rs = [] ∨ ∃ b off, A = some ⟨b, off, none⟩ ∧ lo ≤ b ∧ b < hi ∧ ∀ i r, rs[i]? = some r → ∃ A' c', W.cell? ⟨b, off + i, none⟩ = some (.slice A' r.length c') ∧ (A' = none → c' = 0 ∧ r = []) ∧ IntsIn W lo hi A' r
theorem RowsIn.keep {W W' : World} {lo hi lo' hi' : Nat} {A : Option Addr} {l : List (List Int)} (h : RowsIn W lo hi A l) (h1 : lo' ≤ lo) (h2 : hi ≤ hi') (hk : ∀ b o, lo ≤ b → b < hi → W'.cell? ⟨b, o, none⟩ = W.cell? ⟨b, o, none⟩) : RowsIn W' lo' hi' A l := by
  rcases h with h | ⟨b, off, e, h3, h4, h5⟩
  · exact .inl h
  · refine .inr ⟨b, off, e, by omega, by omega, fun i x hx => ?_⟩
    obtain ⟨A', c', g1, g2, g3⟩ := h5 i x hx
    exact ⟨A', c', by rw [hk _ _ h3 h4]; exact g1, g2, g3.keep h1 h2 hk⟩
theorem RowsIn.below {W W' : World} {lo hi n : Nat} {A : Option Addr} {l : List (List Int)} (h : RowsIn W lo hi A l) (hb : Below n W W') (hn : hi ≤ n) : RowsIn W' lo hi A l :=
  h.keep (Nat.le_refl _) (Nat.le_refl _) fun b o _ hlt => hb.cell (p := ⟨b, o, none⟩) (by show b < n; omega)
theorem RowsIn.at_ {W : World} {lo hi : Nat} {A : Option Addr} {rs : List (List Int)} (h : RowsIn W lo hi A rs) {k : Nat} {r : List Int} (hr : rs[k]? = some r) : ∃ b off A' c', A = some ⟨b, off, none⟩ ∧ b < hi ∧ W.cell? ⟨b, off + k, none⟩ = some (.slice A' r.length c') ∧ (A' = none → c' = 0 ∧ r = []) ∧ IntsIn W lo hi A' r := by
  rcases h with h | ⟨b, off, e, h3, h4, h5⟩
  · subst h; simp at hr
  · obtain ⟨A', c', g1, g2, g3⟩ := h5 k r hr
    exact ⟨b, off, A', c', e, h4, g1, g2, g3⟩
/-- The cells of a slice of lists. -/
def RowV (W : World) (lo hi : Nat) (no : Option Nat) (u : Value) (r : List Int) : Prop := ∃ A' c', u = .slice A' r.length c' ∧ (A' = none → c' = 0 ∧ r = []) ∧ (r = [] ∨ ∃ b off, A' = some ⟨b, off, none⟩ ∧ lo ≤ b ∧ b < hi ∧ some b ≠ no ∧ ∀ i x, r[i]? = some x → W.cell? ⟨b, off + i, none⟩ = some (.int .i64 x))
/-- The slice v owns a row of lists, each of which lies elsewhere, in a block from lo on. -/
def OwnsR (W : World) (lo base : Nat) (v : Value) (rs : List (List Int)) : Prop :=
  ∃ vs : List Value, W.ownsRow base 25 1 v rs.length vs ∧ ∀ (i : Nat) (r : List Int), rs[i]? = some r → ∃ u, vs[i]? = some u ∧ RowV W lo W.heap.size v.ownBlock u r
theorem OwnsR.lay {W : World} {lo base : Nat} {v : Value} {rs : List (List Int)} (h : OwnsR W lo base v rs) (hlo : lo ≤ base) : ∃ A c, v = .slice A rs.length c ∧ (A = none → c = 0 ∧ rs = []) ∧ RowsIn W lo W.heap.size A rs := by
  obtain ⟨vs, h, hv⟩ := h
  have hh := h
  rcases hh.2 with ⟨rfl, h0⟩ | ⟨g, cap, cur, rfl, hb, hg, h4, h5, h6, h7⟩
  · have : rs = [] := List.length_eq_zero_iff.1 h0
    exact ⟨none, 0, by rw [h0], fun _ => ⟨rfl, this⟩, .inl this⟩
  · refine ⟨some ⟨g, 0, none⟩, cap, rfl, fun h => (by cases h), .inr ⟨g, 0, rfl, by omega, (Array.getElem?_eq_some_iff.1 hg).1, fun i r hr => ?_⟩⟩
    obtain ⟨u, hu, A', c', rfl, hA', hr'⟩ := hv i r hr
    have hc := World.ownsRow.cells h (g := g) rfl i _ hu
    rw [addr_add] at hc
    refine ⟨A', c', hc, hA', ?_⟩
    rcases hr' with hr' | ⟨b, off, e, q1, q2, q3, q4⟩
    · exact .inl hr'
    · exact .inr ⟨b, off, e, q1, q2, q4⟩
theorem OwnsR.below_ {W W' : World} {lo base n : Nat} {v : Value} {l : List (List Int)} (h : OwnsR W lo base v l) (hb : Below n W W') (hn : W.heap.size ≤ n) : OwnsR W' lo base v l := by
  obtain ⟨vs, h, hv⟩ := h
  refine ⟨vs, ⟨h.1, ?_⟩, fun i r hr => ?_⟩
  · rcases h.2 with h2 | ⟨g, cap, cur, e, hb2, hg, h4⟩
    · exact .inl h2
    · exact .inr ⟨g, cap, cur, e, hb2, (hb.block g (Nat.lt_of_lt_of_le (Array.getElem?_eq_some_iff.1 hg).1 hn)).trans hg, h4⟩
  · obtain ⟨u, hu, A', c', rfl, hA', hr'⟩ := hv i r hr
    refine ⟨_, hu, A', c', rfl, hA', ?_⟩
    rcases hr' with hr' | ⟨b, off, e, q1, q2, q3, q4⟩
    · exact .inl hr'
    · exact .inr ⟨b, off, e, q1, Nat.lt_of_lt_of_le q2 hb.size, q3, fun i x hx => (hb.cell (p := ⟨b, off + i, none⟩) (Nat.lt_of_lt_of_le q2 hn)).trans (q4 i x hx)⟩
theorem OwnsR.alloc {W : World} {lo base : Nat} {v : Value} {l : List (List Int)} (h : OwnsR W lo base v l) (o : Obj) : OwnsR (W.alloc o) lo base v l := h.below_ ((Below.refl _ W).alloc (Nat.le_refl _) o) (Nat.le_refl _)
open Go.RowKit

open Go.RowKit

end Go.Proofs.Ytmbcpmnigggbaaa.Li
namespace Go.Proofs.Ytmbcpmnigggbaaa.Li
open Go.RowKit

/-- The best places so far, in memory from B on. -/
def BestAt (W : World) (B : Nat) (v : Value) (l : List Int) : Prop := (l = [] ∧ v = .slice none 0 0) ∨ (l ≠ [] ∧ ∃ A c, v = .slice (some A) l.length c ∧ IntsFrom W B (some A) l)
theorem BestAt.below {W W' : World} {B : Nat} {v : Value} {l : List Int} (h : BestAt W B v l) (hb : Below W.heap.size W W') : BestAt W' B v l := by
  rcases h with h | ⟨h1, A, c, h2, h3⟩
  · exact .inl h
  · exact .inr ⟨h1, A, c, h2, h3.below hb⟩
open Go.RowKit

end Go.Proofs.Ytmbcpmnigggbaaa.Li
