import Derived.Test.YtmbcpmnigggbaaaFH
namespace Go.Proofs.Ytmbcpmnigggbaaa
open Go.RowKit

/-! The program's functions: Most 40, Winners 42, Ready 29, Paid 32, Won 36, Pays 23, Need 37. -/
abbrev rdF (f : Fair) : List Int := readyL f.h f.pk f.day
def numRF (f : Fair) (is : Bool) (v : Int) : Int × Int := if askF f is = 0 then (v, 0) else (0, askF f is)
theorem numRF_ok {f : Fair} {is : Bool} {v : Int} (h : askF f is = 0) : numRF f is v = (v, 0) := if_pos h
theorem numRF_no {f : Fair} {is : Bool} {v er : Int} (h : er = askF f is) (h0 : er ≠ 0) : numRF f is v = (0, er) := by
  unfold numRF; rw [if_neg (by rw [← h]; exact h0), h]
def NumEnd (r : Int × Int) (e : Ending) : Prop := e = .returned (.tuple #[.int .i64 r.1, .int .i64 r.2])
theorem NumEnd.mk {r : Int × Int} {x y : Int} (h : r = (x, y)) : NumEnd r (.returned (.tuple #[.int .i64 x, .int .i64 y])) := by unfold NumEnd; rw [h]
def ListEnd (r : List Int × Int) (B : Nat) (w' : World) (e : Ending) : Prop := ∃ v, e = .returned (.tuple #[v, .int .i64 r.2]) ∧ Ints w' B v r.1
theorem ListEnd.mk {r : List Int × Int} {B : Nat} {w' : World} {v : Value} {l : List Int} {y : Int} (h : r = (l, y)) (hv : Ints w' B v l) : ListEnd r B w' (.returned (.tuple #[v, .int .i64 y])) := by subst h; exact ⟨v, rfl, hv⟩
def mostRet (f : Fair) : Int × Int := numRF f true (mostV f.q (rdF f))
def paidRet (f : Fair) : Int × Int := numRF f true (paidTo f.q (rdF f) f.nb.toNat)
def isBuyer (f : Fair) (x : Int) : Bool := inR x 0 (f.nb - 1)
def payRet (f : Fair) (x : Int) : Int × Int := numRF f (isBuyer f x) (payV f.q (rdF f) x)
set_option maxRecDepth 100000 in
set_option maxHeartbeats 4000000 in
theorem Most_any (F : FL) (f : Fair) (hn : FN f) (w : World) (hF : FairAt w w.heap.size F f) : Calls Try.prog 33 #[F.enc f] w fun e w' => NumEnd (mostRet f) e ∧ Below w.heap.size w w' := by
  have hbw := al_below w (.cells #[.slice F.L.Ak f.h.ks.length F.L.ck, .int .i64 f.h.fl, .slice F.L.Ap f.h.ps.length F.L.cp, .slice F.L.Ab f.h.bs.length F.L.cb, .slice F.Ap f.pk.length F.cp, .int .i64 f.day, .int .i64 f.nb, .slice F.Aq f.q.length F.cq] 62)
  have HB := Lib.hid (FBox.new w F f)
  obtain ⟨c0, c1, c2, c3, c4, c5, c6, c7⟩ := (FBox.new w F f).cells
  obtain ⟨W0, hW0⟩ : ∃ W0, w.alloc (.cells #[.slice F.L.Ak f.h.ks.length F.L.ck, .int .i64 f.h.fl, .slice F.L.Ap f.h.ps.length F.L.cp, .slice F.L.Ab f.h.bs.length F.L.cb, .slice F.Ap f.pk.length F.cp, .int .i64 f.day, .int .i64 f.nb, .slice F.Aq f.q.length F.cq] 62) = W0 := ⟨_, rfl⟩
  rw [hW0] at hbw HB c0 c1 c2 c3 c4 c5 c6 c7
  have HBW := Lib.hid hbw
  have HW0 := Lib.hid hW0
  have HF := Lib.hid (hF.below hbw)
  clear hbw hW0 hF
  have HN := Lib.hid hn
  clear hn
  by_cases h0 : askF f true = 0
  · have H66 := Lib.hid (open_yes F f true HN.out W0 HF.out h0)
    have HV := Lib.hid (askF_ok h0).1
    have HFO := Lib.hid (FOK.of HV.out)
    have HA := Lib.hid h0
    clear h0
    obtain ⟨L, Ap, cp, Aq, cq⟩ := F
    go_enter Try.func33, Try.ntmps33
    go_upto_region 1 with (fail)
    have e := HW0.out
    rw [e]
    clear e
    go_wp2_with (first
      | (go_at_call 89; refine (H66.out).mono ?_; rintro e w1 ⟨⟨b, rfl, hbb, hO⟩, hb1⟩; have B1 := Lib.hid hb1; have HO := Lib.hid hO; have HBB := Lib.hid hbb; clear hb1 hO hbb)
      | (go_at_call 90; refine (most_78 _ f HFO.out _ b allM w1 HO.out (fun m hm X hX => (all_any78 m X).mono fun e X' h => ⟨h.1, h.2 ▸ Below.refl _ _⟩)).mono ?_; rintro e w2 ⟨rfl, hb2⟩; have B2 := Lib.hid hb2; clear hb2))
    go_ret2
    exact ⟨NumEnd.mk (numRF_ok HA.out), hb0to HBW.out (hb0to B1.out B2.out)⟩
  · have H66 := Lib.hid (open_no F f true HN.out W0 HF.out h0)
    obtain ⟨er, her⟩ : ∃ x, x = askF f true := ⟨_, rfl⟩
    have HQ := Lib.hid her
    rw [← her] at H66 h0
    have hd : (er != 0) = true := bne_iff_ne.2 h0
    clear h0 her
    obtain ⟨L, Ap, cp, Aq, cq⟩ := F
    go_enter Try.func33, Try.ntmps33
    go_upto_region 1 with (fail)
    have e := HW0.out
    rw [e]
    clear e
    go_wp2_with (go_at_call 89; refine (H66.out).mono ?_; rintro e w1 ⟨rfl, hb1⟩; have B1 := Lib.hid hb1; clear hb1)
    go_ret2
    exact ⟨NumEnd.mk (numRF_no HQ.out (bne_iff_ne.1 hd)), hb0to HBW.out B1.out⟩
open Go.RowKit

/-! Paid 32, Won 36, Pays 23, Need 37. -/
theorem ownL_le {q : List Bid} (hq : ∀ b ∈ q, 0 ≤ b.pay) (v : Int) (l : List Nat) : ownL q v l ≤ bringsL q l := by
  have h1 := own_others q v l
  have h2 : 0 ≤ othersL q v l := brings_nonneg hq _
  omega
theorem payV_le {q : List Bid} {rd : List Int} (hn : q.length ≤ 8) (hq : ∀ b ∈ q, 0 ≤ b.pay ∧ b.pay ≤ 99) (v : Int) : 0 ≤ payV q rd v ∧ payV q rd v ≤ 792 := by
  have h0 := fun b hb => (hq b hb).1
  have h1 := payV_bd (rd := rd) hn h0 v
  have h2 := ownL_le h0 v (winL q rd)
  have h3 := brings_le hq (winL q rd)
  have h4 := bits_len q.length (winS q rd)
  unfold winL at h2 h3 h1
  omega
set_option maxRecDepth 100000 in
set_option maxHeartbeats 4000000 in
theorem Paid_any (F : FL) (f : Fair) (hn : FN f) (w : World) (hF : FairAt w w.heap.size F f) : Calls Try.prog 39 #[F.enc f] w fun e w' => NumEnd (paidRet f) e ∧ Below w.heap.size w w' := by
  have hbw := al_below w (.cells #[.slice F.L.Ak f.h.ks.length F.L.ck, .int .i64 f.h.fl, .slice F.L.Ap f.h.ps.length F.L.cp, .slice F.L.Ab f.h.bs.length F.L.cb, .slice F.Ap f.pk.length F.cp, .int .i64 f.day, .int .i64 f.nb, .slice F.Aq f.q.length F.cq] 62)
  have HB := Lib.hid (FBox.new w F f)
  obtain ⟨c0, c1, c2, c3, c4, c5, c6, c7⟩ := (FBox.new w F f).cells
  obtain ⟨W0, hW0⟩ : ∃ W0, w.alloc (.cells #[.slice F.L.Ak f.h.ks.length F.L.ck, .int .i64 f.h.fl, .slice F.L.Ap f.h.ps.length F.L.cp, .slice F.L.Ab f.h.bs.length F.L.cb, .slice F.Ap f.pk.length F.cp, .int .i64 f.day, .int .i64 f.nb, .slice F.Aq f.q.length F.cq] 62) = W0 := ⟨_, rfl⟩
  rw [hW0] at hbw HB c0 c1 c2 c3 c4 c5 c6 c7
  have HBW := Lib.hid hbw
  have HW0 := Lib.hid hW0
  have HF := Lib.hid (hF.below hbw)
  clear hbw hW0 hF
  have HN := Lib.hid hn
  clear hn
  by_cases h0 : askF f true = 0
  · have H66 := Lib.hid (open_yes F f true HN.out W0 HF.out h0)
    have HV := Lib.hid (askF_ok h0).1
    have HFO := Lib.hid (FOK.of HV.out)
    have HA := Lib.hid h0
    clear h0
    obtain ⟨nb, hnb⟩ := Int.eq_ofNat_of_zero_le HFO.out.n0
    have hnb4 : nb ≤ 4 := by have := HFO.out.n1; omega
    have HNB := Lib.hid hnb
    clear hnb
    obtain ⟨L, Ap, cp, Aq, cq⟩ := F
    go_enter Try.func39, Try.ntmps39
    go_upto_region 1 with (fail)
    have e := HW0.out
    rw [e]
    clear e
    go_wp2_with (first
      | (go_at_call 89; refine (H66.out).mono ?_; rintro e w1 ⟨⟨b, rfl, hbb, hO⟩, hb1⟩; have B1 := Lib.hid hb1; have HO := Lib.hid hO; have HBB := Lib.hid hbb; have r6 := (HB.out.of (hb1.block _ HB.out.lt)).cells.2.2.2.2.2.2.1; rw [HNB.out] at r6; clear hb1 hO hbb)
      | (fail))
    clear r6
    go_loopw [18, 6] (fun i s wr => ∃ (k : Nat) (x : Int), k ≤ nb ∧ i = .int .i64 k ∧ s = .int .i64 x ∧ 0 ≤ x ∧ x ≤ 792 * (k : Int) ∧ Hid (x = paidTo f.q (rdF f) k) ∧ Hid (Below w1.heap.size w1 wr)) (fun i _ _ => nb - (intOf i).toNat)
    case atStart => exact ⟨0, 0, Nat.zero_le _, rfl, rfl, by omega, by omega, Lib.hid rfl, Lib.hid (Below.refl _ _)⟩
    case round =>
      obtain ⟨k, x, hk, rfl, rfl, hx0, hx1, hx, hb⟩ := hrel
      by_cases hlt : k < nb
      · have hp := payV_le (rd := rdF f) HFO.out.ql HFO.out.pay (k : Int)
        have H68 := Lib.hid (pays_any _ f HFO.out _ b (k : Int) wr (HO.out.below hb.out))
        have HN := Lib.hid (show paidTo f.q (rdF f) (k + 1) = paidTo f.q (rdF f) k + payV f.q (rdF f) k from rfl)
        generalize payV f.q (rdF f) (k : Int) = p at hp H68 HN
        go_wp2_with (go_at_call 103; refine H68.out.mono ?_; rintro e w2 ⟨rfl, hb2⟩; have B2 := Lib.hid hb2; clear hb2)
        go_roundw
        case rel => exact ⟨k + 1, x + p, by omega, by go_num, rfl, by omega, by omega, Lib.hid (by rw [HN.out, hx.out]), Lib.hid (hb0to hb.out B2.out)⟩
        case measure => simp [intOf]; omega
      · obtain rfl : k = nb := by omega
        have HQ := Lib.hid (show paidRet f = (x, 0) by unfold paidRet; rw [numRF_ok HA.out, hx.out, HNB.out]; rfl)
        go_wp2_with (fail)
        go_ret2
        exact ⟨NumEnd.mk HQ.out, hb0to HBW.out (hb0to B1.out hb.out)⟩
  · have H66 := Lib.hid (open_no F f true HN.out W0 HF.out h0)
    obtain ⟨er, her⟩ : ∃ x, x = askF f true := ⟨_, rfl⟩
    have HQ := Lib.hid her
    rw [← her] at H66 h0
    have hd : (er != 0) = true := bne_iff_ne.2 h0
    clear h0 her
    obtain ⟨L, Ap, cp, Aq, cq⟩ := F
    go_enter Try.func39, Try.ntmps39
    go_upto_region 1 with (fail)
    have e := HW0.out
    rw [e]
    clear e
    go_wp2_with (go_at_call 89; refine (H66.out).mono ?_; rintro e w1 ⟨rfl, hb1⟩; have B1 := Lib.hid hb1; clear hb1)
    go_ret2
    exact ⟨NumEnd.mk (numRF_no HQ.out (bne_iff_ne.1 hd)), hb0to HBW.out B1.out⟩
theorem pay_eq {f : Fair} {x : Int} {is : Bool} (his : is = inR x 0 (IntKind.i64.wrap (f.nb - 1))) (v : Int) : numRF f (isBuyer f x) v = numRF f is v := by
  cases hv : validF f
  · unfold numRF; rw [askF_bad _ hv, askF_bad _ hv]
  · have h := FOK.of hv
    have h0 := h.n0
    have h1 := h.n1
    rw [his, IntWalk.i64_in _ (by omega)]
    rfl
set_option maxRecDepth 100000 in
set_option maxHeartbeats 4000000 in
theorem Pays_any (F : FL) (f : Fair) (hn : FN f) (x : Int) (w : World) (hF : FairAt w w.heap.size F f) : Calls Try.prog 48 #[F.enc f, .int .i64 x] w fun e w' => NumEnd (payRet f x) e ∧ Below w.heap.size w w' := by
  have hbw := al_below w (.cells #[.slice F.L.Ak f.h.ks.length F.L.ck, .int .i64 f.h.fl, .slice F.L.Ap f.h.ps.length F.L.cp, .slice F.L.Ab f.h.bs.length F.L.cb, .slice F.Ap f.pk.length F.cp, .int .i64 f.day, .int .i64 f.nb, .slice F.Aq f.q.length F.cq] 62)
  have HB := Lib.hid (FBox.new w F f)
  obtain ⟨c0, c1, c2, c3, c4, c5, c6, c7⟩ := (FBox.new w F f).cells
  obtain ⟨W0, hW0⟩ : ∃ W0, w.alloc (.cells #[.slice F.L.Ak f.h.ks.length F.L.ck, .int .i64 f.h.fl, .slice F.L.Ap f.h.ps.length F.L.cp, .slice F.L.Ab f.h.bs.length F.L.cb, .slice F.Ap f.pk.length F.cp, .int .i64 f.day, .int .i64 f.nb, .slice F.Aq f.q.length F.cq] 62) = W0 := ⟨_, rfl⟩
  rw [hW0] at hbw HB c0 c1 c2 c3 c4 c5 c6 c7
  have HBW := Lib.hid hbw
  have HW0 := Lib.hid hW0
  have HF := Lib.hid (hF.below hbw)
  clear hbw hW0 hF
  have HN := Lib.hid hn
  have hqn := hn.q
  obtain ⟨is, his⟩ : ∃ b, b = inR x 0 (IntKind.i64.wrap (f.nb - 1)) := ⟨_, rfl⟩
  have H67 := Lib.hid (fun W => by have := swithin_any x 0 (IntKind.i64.wrap (f.nb - 1)) W; rw [← his] at this; exact this)
  have HIS := Lib.hid his
  clear hn
  by_cases h0 : askF f is = 0
  · have hi := (askF_ok h0).2
    have HV := Lib.hid (askF_ok h0).1
    have HFO := Lib.hid (FOK.of HV.out)
    have HA := Lib.hid h0
    have H66 := Lib.hid (fun W hW => open_yes F f is HN.out W hW h0)
    have HR := Lib.hid (inR_true.1 (his.symm.trans hi))
    clear h0 his
    subst hi
    have HQ0 := Lib.hid (show payRet f x = (payV f.q (rdF f) x, 0) by unfold payRet; rw [pay_eq HIS.out, numRF_ok HA.out])
    have H68 := Lib.hid (fun b W hW => pays_any F f HFO.out (rdF f) b x W hW)
    obtain ⟨L, Ap, cp, Aq, cq⟩ := F
    go_enter Try.func48, Try.ntmps48
    go_upto_region 1 with (fail)
    have e := HW0.out
    rw [e]
    clear e
    go_region_held3 (fun w' => w'.cell? ⟨w.heap.size, 0, none⟩ = some (.slice L.Ak f.h.ks.length L.ck) ∧ w'.cell? ⟨w.heap.size, 1, none⟩ = some (.int .i64 f.h.fl) ∧ w'.cell? ⟨w.heap.size, 2, none⟩ = some (.slice L.Ap f.h.ps.length L.cp) ∧ w'.cell? ⟨w.heap.size, 3, none⟩ = some (.slice L.Ab f.h.bs.length L.cb) ∧ w'.cell? ⟨w.heap.size, 4, none⟩ = some (.slice Ap f.pk.length cp) ∧ w'.cell? ⟨w.heap.size, 5, none⟩ = some (.int .i64 f.day) ∧ w'.cell? ⟨w.heap.size, 6, none⟩ = some (.int .i64 f.nb) ∧ w'.cell? ⟨w.heap.size, 7, none⟩ = some (.slice Aq f.q.length cq)) (first | go_keep)
      (first
        | (go_at_call 110; refine (H67.out _).mono ?_; rintro e w1 ⟨rfl, rfl⟩)
        | (go_at_call 89; refine (H66.out _ (HF.out.below (by first | exact Below.refl _ _ | exact drew_below W0))).mono ?_; rintro e w2 ⟨⟨b, rfl, hbb, hO⟩, hb2⟩; have B2 := Lib.hid (by first | exact hb2 | exact hb0to (drew_below W0) hb2 : Below W0.heap.size W0 w2); have HO := Lib.hid hO; have HBB := Lib.hid hbb; clear hO hbb; obtain ⟨r0, r1, r2, r3, r4, r5, r6, r7⟩ := (HB.out.of (B2.out.block _ HB.out.lt)).cells; clear hb2))
    all_goals
      go_wp2_with (go_at_call 103; refine (H68.out b _ HO.out).mono ?_; rintro e w3 ⟨rfl, hb3⟩; have B3 := Lib.hid hb3; clear hb3)
      go_ret2
      exact ⟨NumEnd.mk HQ0.out, hb0to HBW.out (hb0to B2.out B3.out)⟩
  · have H66 := Lib.hid (fun W hW => open_no F f is HN.out W hW h0)
    obtain ⟨er, her⟩ : ∃ x, x = askF f is := ⟨_, rfl⟩
    have HQ := Lib.hid her
    rw [← her] at H66 h0
    have hd : (er != 0) = true := bne_iff_ne.2 h0
    clear h0 her his
    obtain ⟨L, Ap, cp, Aq, cq⟩ := F
    go_enter Try.func48, Try.ntmps48
    go_upto_region 1 with (fail)
    have e := HW0.out
    rw [e]
    clear e
    go_region_held3 (fun w' => w'.cell? ⟨w.heap.size, 0, none⟩ = some (.slice L.Ak f.h.ks.length L.ck) ∧ w'.cell? ⟨w.heap.size, 1, none⟩ = some (.int .i64 f.h.fl) ∧ w'.cell? ⟨w.heap.size, 2, none⟩ = some (.slice L.Ap f.h.ps.length L.cp) ∧ w'.cell? ⟨w.heap.size, 3, none⟩ = some (.slice L.Ab f.h.bs.length L.cb) ∧ w'.cell? ⟨w.heap.size, 4, none⟩ = some (.slice Ap f.pk.length cp) ∧ w'.cell? ⟨w.heap.size, 5, none⟩ = some (.int .i64 f.day) ∧ w'.cell? ⟨w.heap.size, 6, none⟩ = some (.int .i64 f.nb) ∧ w'.cell? ⟨w.heap.size, 7, none⟩ = some (.slice Aq f.q.length cq)) (first | go_keep)
      (first
        | (go_at_call 110; refine (H67.out _).mono ?_; rintro e w1 ⟨rfl, rfl⟩)
        | (go_at_call 89; refine (H66.out _ (HF.out.below (by first | exact Below.refl _ _ | exact drew_below W0))).mono ?_; rintro e w2 ⟨rfl, hb2⟩; have B2 := Lib.hid (by first | exact hb2 | exact hb0to (drew_below W0) hb2 : Below W0.heap.size W0 w2); obtain ⟨r0, r1, r2, r3, r4, r5, r6, r7⟩ := (HB.out.of (B2.out.block _ HB.out.lt)).cells; clear hb2))
    all_goals
      go_wp2_with (fail)
      go_ret2
      exact ⟨NumEnd.mk (by unfold payRet; rw [pay_eq HIS.out]; exact numRF_no HQ.out (bne_iff_ne.1 hd)), hb0to HBW.out B2.out⟩
end Go.Proofs.Ytmbcpmnigggbaaa
namespace Go.Proofs.Ytmbcpmnigggbaaa
open Go.RowKit

/-! The specification's IsBuyer 17, IsBid 35, IsDay 27, Check 48, ask 82. -/
theorem rwithin_any (n lo hi : Int) (w : World) : Calls Try.prog 86 #[.int .i64 n, .int .i64 lo, .int .i64 hi] w fun e w' => e = .returned (.bool (inR n lo hi)) ∧ w = w' := by
  go_enter Try.func86, Try.ntmps86
  go_wp2_with (go_at_call 28; refine (within1_any _ _ _ _).mono ?_; rintro e w' ⟨rfl, rfl⟩)
  go_ret
  exact ⟨rfl, rfl⟩
set_option maxRecDepth 100000 in
set_option maxHeartbeats 4000000 in
theorem rIsBuyer_any (F : FL) (f : Fair) (n : Int) (h0 : 0 ≤ f.nb) (h4 : f.nb ≤ 4) (w : World) : Calls Try.prog 87 #[F.enc f, .int .i64 n] w fun e w' => e = .returned (.bool (isBuyer f n)) ∧ Below w.heap.size w w' := by
  have hbw := al_below w (.cells #[.slice F.L.Ak f.h.ks.length F.L.ck, .int .i64 f.h.fl, .slice F.L.Ap f.h.ps.length F.L.cp, .slice F.L.Ab f.h.bs.length F.L.cb, .slice F.Ap f.pk.length F.cp, .int .i64 f.day, .int .i64 f.nb, .slice F.Aq f.q.length F.cq] 62)
  obtain ⟨c0, c1, c2, c3, c4, c5, c6, c7⟩ := (FBox.new w F f).cells
  obtain ⟨W0, hW0⟩ : ∃ W0, w.alloc (.cells #[.slice F.L.Ak f.h.ks.length F.L.ck, .int .i64 f.h.fl, .slice F.L.Ap f.h.ps.length F.L.cp, .slice F.L.Ab f.h.bs.length F.L.cb, .slice F.Ap f.pk.length F.cp, .int .i64 f.day, .int .i64 f.nb, .slice F.Aq f.q.length F.cq] 62) = W0 := ⟨_, rfl⟩
  rw [hW0] at hbw c0 c1 c2 c3 c4 c5 c6 c7
  have HBW := Lib.hid hbw
  have HW0 := Lib.hid hW0
  clear hbw hW0 c0 c1 c2 c3 c4 c5 c7
  obtain ⟨L, Ap, cp, Aq, cq⟩ := F
  go_enter Try.func87, Try.ntmps87
  go_upto_region 1 with (fail)
  have e := HW0.out
  rw [e]
  clear e
  go_wp2_with (go_at_call 86; refine (rwithin_any _ _ _ _).mono ?_; rintro e w' ⟨rfl, rfl⟩)
  go_ret
  exact ⟨rfl, HBW.out⟩
set_option maxRecDepth 100000 in
set_option maxHeartbeats 4000000 in
theorem rcheckF_any (F : FL) (f : Fair) (hn : FN f) (w : World) (hF : FairAt w w.heap.size F f) : Calls Try.prog 32 #[F.enc f] w fun e w' => e = .returned (.int .i64 (ckF f)) ∧ Below w.heap.size w w' := by
  have hbw := al_below w (.cells #[.slice F.L.Ak f.h.ks.length F.L.ck, .int .i64 f.h.fl, .slice F.L.Ap f.h.ps.length F.L.cp, .slice F.L.Ab f.h.bs.length F.L.cb, .slice F.Ap f.pk.length F.cp, .int .i64 f.day, .int .i64 f.nb, .slice F.Aq f.q.length F.cq] 62)
  have HB := Lib.hid (FBox.new w F f)
  obtain ⟨c0, c1, c2, c3, c4, c5, c6, c7⟩ := (FBox.new w F f).cells
  obtain ⟨W0, hW0⟩ : ∃ W0, w.alloc (.cells #[.slice F.L.Ak f.h.ks.length F.L.ck, .int .i64 f.h.fl, .slice F.L.Ap f.h.ps.length F.L.cp, .slice F.L.Ab f.h.bs.length F.L.cb, .slice F.Ap f.pk.length F.cp, .int .i64 f.day, .int .i64 f.nb, .slice F.Aq f.q.length F.cq] 62) = W0 := ⟨_, rfl⟩
  rw [hW0] at hbw HB c0 c1 c2 c3 c4 c5 c6 c7
  have HBW := Lib.hid hbw
  have HW0 := Lib.hid hW0
  have HF := Lib.hid (hF.below hbw)
  clear hbw hW0 hF
  have HN := Lib.hid hn
  have hqn := hn.q
  clear hn
  obtain ⟨L, Ap, cp, Aq, cq⟩ := F
  cases hv : validH f.h
  · rw [ckF_no (valid_no1 (by simp [packOK, hv]))]
    have H87 := Lib.hid (by have := rcheck_any L f.h HN.out.h W0 HF.out.h; rw [ckH_no hv] at this; exact this)
    clear hv
    go_enter Try.func32, Try.ntmps32
    go_upto_region 1 with (fail)
    have e := HW0.out
    rw [e]
    clear e
    go_wp2_with (first
      | (go_at_call 11; refine H87.out.mono ?_; rintro e W1 ⟨rfl, hb1⟩; have B1 := Lib.hid hb1; clear hb1))
    go_ret
    exact ⟨rfl, hb0to HBW.out B1.out⟩
  have HV := Lib.hid (HOK.ofValid hv)
  have H87 := Lib.hid (by have := rcheck_any L f.h HN.out.h W0 HF.out.h; rw [ckH_yes hv] at this; exact this)
  cases hg : goodB f.h f.pk
  · rw [ckF_no (valid_no1 (by simp [packOK, hg]))]
    have H88 := Lib.hid (fun W h1 h2 => by have := isPacking_any L f.h HV.out f.pk HN.out.p Ap cp W h1 h2; rw [hg] at this; exact this)
    clear hv hg
    go_enter Try.func32, Try.ntmps32
    go_upto_region 1 with (fail)
    have e := HW0.out
    rw [e]
    clear e
    go_wp2_with (first
      | (go_at_call 11; refine H87.out.mono ?_; rintro e W1 ⟨rfl, hb1⟩; have B1 := Lib.hid hb1; obtain ⟨g0, g1, g2, g3, g4, g5, g6, g7⟩ := (HB.out.of (hb1.block _ HB.out.lt)).cells; clear hb1)
      | (go_at_call 85; refine (H88.out W1 (HF.out.below B1.out).h (HF.out.below B1.out).p).mono ?_; rintro e W2 ⟨rfl, hb2⟩; have B2 := Lib.hid (hb0to B1.out hb2); clear hb2))
    go_ret
    exact ⟨rfl, hb0to HBW.out B2.out⟩
  have HPK : Hid (packOK f = true) := Lib.hid (by simp [packOK, hv, hg])
  have H88 := Lib.hid (fun W h1 h2 => by have := isPacking_any L f.h HV.out f.pk HN.out.p Ap cp W h1 h2; rw [hg] at this; exact this)
  clear hv hg
  cases h1 : inR f.day 0 20
  · rw [ckF_no (valid_no2 (by simp [numsOK, h1]))]
    go_enter Try.func32, Try.ntmps32
    go_upto_region 1 with (fail)
    have e := HW0.out
    rw [e]
    clear e
    go_wp2_with (first
      | (go_at_call 11; refine H87.out.mono ?_; rintro e W1 ⟨rfl, hb1⟩; have B1 := Lib.hid hb1; obtain ⟨g0, g1, g2, g3, g4, g5, g6, g7⟩ := (HB.out.of (hb1.block _ HB.out.lt)).cells; clear hb1)
      | (go_at_call 85; refine (H88.out W1 (HF.out.below B1.out).h (HF.out.below B1.out).p).mono ?_; rintro e W2 ⟨rfl, hb2⟩; have B2 := Lib.hid (hb0to B1.out hb2); obtain ⟨g0, g1, g2, g3, g4, g5, g6, g7⟩ := (HB.out.of (B2.out.block _ HB.out.lt)).cells; clear hb2)
      | (go_at_call 86; refine (rwithin_any _ _ _ _).mono ?_; rintro e w' ⟨rfl, rfl⟩))
    go_ret
    exact ⟨rfl, hb0to HBW.out B2.out⟩
  cases h2 : inR f.nb 0 4
  · rw [ckF_no (valid_no2 (by simp [numsOK, h2]))]
    go_enter Try.func32, Try.ntmps32
    go_upto_region 1 with (fail)
    have e := HW0.out
    rw [e]
    clear e
    go_wp2_with (first
      | (go_at_call 11; refine H87.out.mono ?_; rintro e W1 ⟨rfl, hb1⟩; have B1 := Lib.hid hb1; obtain ⟨g0, g1, g2, g3, g4, g5, g6, g7⟩ := (HB.out.of (hb1.block _ HB.out.lt)).cells; clear hb1)
      | (go_at_call 85; refine (H88.out W1 (HF.out.below B1.out).h (HF.out.below B1.out).p).mono ?_; rintro e W2 ⟨rfl, hb2⟩; have B2 := Lib.hid (hb0to B1.out hb2); obtain ⟨g0, g1, g2, g3, g4, g5, g6, g7⟩ := (HB.out.of (B2.out.block _ HB.out.lt)).cells; clear hb2)
      | (go_at_call 86; refine (rwithin_any _ _ _ _).mono ?_; rintro e w' ⟨rfl, rfl⟩))
    go_ret
    exact ⟨rfl, hb0to HBW.out B2.out⟩
  have hnbr := inR_true.1 h2
  by_cases h3 : 8 < f.q.length
  · rw [ckF_no (valid_no2 (by simp [numsOK]; omega))]
    go_enter Try.func32, Try.ntmps32
    go_upto_region 1 with (fail)
    have e := HW0.out
    rw [e]
    clear e
    go_wp2_with (first
      | (go_at_call 11; refine H87.out.mono ?_; rintro e W1 ⟨rfl, hb1⟩; have B1 := Lib.hid hb1; obtain ⟨g0, g1, g2, g3, g4, g5, g6, g7⟩ := (HB.out.of (hb1.block _ HB.out.lt)).cells; clear hb1)
      | (go_at_call 85; refine (H88.out W1 (HF.out.below B1.out).h (HF.out.below B1.out).p).mono ?_; rintro e W2 ⟨rfl, hb2⟩; have B2 := Lib.hid (hb0to B1.out hb2); obtain ⟨g0, g1, g2, g3, g4, g5, g6, g7⟩ := (HB.out.of (B2.out.block _ HB.out.lt)).cells; clear hb2)
      | (go_at_call 86; refine (rwithin_any _ _ _ _).mono ?_; rintro e w' ⟨rfl, rfl⟩))
    go_ret
    exact ⟨rfl, hb0to HBW.out B2.out⟩
  have HNU : Hid (numsOK f = true) := Lib.hid (by simp [numsOK, h1, h2]; omega)
  go_enter Try.func32, Try.ntmps32
  go_upto_region 1 with (fail)
  have e := HW0.out
  rw [e]
  clear e
  go_wp2_with (first
    | (go_at_call 11; refine H87.out.mono ?_; rintro e W1 ⟨rfl, hb1⟩; have B1 := Lib.hid hb1; obtain ⟨g0, g1, g2, g3, g4, g5, g6, g7⟩ := (HB.out.of (hb1.block _ HB.out.lt)).cells; clear hb1)
    | (go_at_call 85; refine (H88.out W1 (HF.out.below B1.out).h (HF.out.below B1.out).p).mono ?_; rintro e W2 ⟨rfl, hb2⟩; have B2 := Lib.hid (hb0to B1.out hb2); obtain ⟨g0, g1, g2, g3, g4, g5, g6, g7⟩ := (HB.out.of (B2.out.block _ HB.out.lt)).cells; clear hb2)
    | (go_at_call 86; refine (rwithin_any _ _ _ _).mono ?_; rintro e w' ⟨rfl, rfl⟩))
  clear h1 h2 g0 g1 g2 g3 g4 g5 g6 g7
  go_loopw [3] (fun i wr => ∃ k : Nat, k ≤ f.q.length ∧ i = .int .i64 k ∧ Hid (∀ j b, j < k → f.q[j]? = some b → bidOK f b = true) ∧ Hid (Below W0.heap.size W0 wr)) (fun i _ => f.q.length - (intOf i).toNat)
  case atStart => exact ⟨0, Nat.zero_le _, rfl, Lib.hid (fun j x hj => by omega), B2⟩
  case round =>
    obtain ⟨k, hk, rfl, hok, hb⟩ := hrel
    have hFr := HB.out.of (hb.out.block _ HB.out.lt)
    obtain ⟨g0, g1, g2, g3, g4, g5, g6, g7⟩ := hFr.cells
    by_cases hlt : k < f.q.length
    · obtain ⟨x, hx⟩ : ∃ x, f.q[k]? = some x := ⟨_, List.getElem?_eq_getElem hlt⟩
      obtain ⟨bk, ok, A', c', eA, hbk, d1, d2, d3, hA', hI⟩ := HF.out.q.at_ hx
      have e1 := below_cell hb.out d1
      have e2 := below_cell hb.out d2
      have e3 := below_cell hb.out d3
      have hx4 := HN.out.b x (List.mem_of_getElem? hx)
      have hbs := HN.out.h.2.2
      have HX := Lib.hid hx
      have HI := Lib.hid hI
      rw [show Aq = _ from eA] at g7
      have hb5 := al_below wr (.cells #[.int .i64 x.who, .slice A' x.bar.length c', .int .i64 x.pay] 68)
      have hbb := BBox.new wr A' c' x
      obtain ⟨W5, hW5⟩ : ∃ W5, wr.alloc (.cells #[.int .i64 x.who, .slice A' x.bar.length c', .int .i64 x.pay] 68) = W5 := ⟨_, rfl⟩
      rw [hW5] at hb5 hbb
      have HBB := Lib.hid hbb
      have HB5 := Lib.hid (hb0to hb.out hb5)
      have HW5 := Lib.hid hW5
      have HF5 := Lib.hid (HF.out.below HB5.out)
      have HFB := Lib.hid (HB.out.of (HB5.out.block _ HB.out.lt))
      have HEA := Lib.hid eA
      clear hx hI hA' d1 d2 d3 hb5 hbb hW5 hFr eA
      go_upto_region 9 with (fail)
      have e := HW5.out
      rw [e]
      clear e g0 g1 g2 g3 g4 g5 g6 g7 e1 e2 e3
      obtain ⟨k0, k1, k2⟩ := HBB.out.cells
      obtain ⟨g0, g1, g2, g3, g4, g5, g6, g7⟩ := HFB.out.cells
      cases h1 : isBuyer f x.who
      · have hno : Hid (bidOK f x = false) := Lib.hid (by have : inR x.who 0 (f.nb - 1) = false := h1; simp [bidOK, this])
        have H17 := Lib.hid (by have := rIsBuyer_any ⟨L, Ap, cp, Aq, cq⟩ f x.who hnbr.1 hnbr.2 W5; rw [h1] at this; exact this)
        clear h1
        go_wp2_with (go_at_call 87; refine H17.out.mono ?_; rintro e W6 ⟨rfl, hb6⟩; have B6 := Lib.hid (hb0to HB5.out hb6); clear hb6)
        go_ret
        exact ⟨by rw [ckF_no (bids_no HX.out hno.out)]; rfl, hb0to HBW.out B6.out⟩
      have H17 := Lib.hid (by have := rIsBuyer_any ⟨L, Ap, cp, Aq, cq⟩ f x.who hnbr.1 hnbr.2 W5; rw [h1] at this; exact this)
      by_cases h3 : x.bar.length = 0
      · have hno : Hid (bidOK f x = false) := Lib.hid (by simp [bidOK, List.length_eq_zero_iff.1 h3])
        have h3' : ((x.bar.length : Int) == 0) = true := by simpa using h3
        clear h1 h3
        go_wp2_with (go_at_call 87; refine H17.out.mono ?_; rintro e W6 ⟨rfl, hb6⟩; have B6 := Lib.hid (hb0to HB5.out hb6); have p1 := below_cell hb6 k1; clear hb6)
        go_ret
        exact ⟨by rw [ckF_no (bids_no HX.out hno.out)]; rfl, hb0to HBW.out B6.out⟩
      have h3' : ((x.bar.length : Int) == 0) = false := by simpa using h3
      have H89 := Lib.hid (fun W (hW : Below W5.heap.size W5 W) => rising_any x.bar hx4 f.h.bs.length A' c' W (ints_later HI.out (hb0to HB5.out hW)))
      cases h4 : riseB x.bar f.h.bs.length
      · have hno : Hid (bidOK f x = false) := Lib.hid (by simp [bidOK, h4])
        rw [h4] at H89
        clear h1 h3 h4
        go_wp2_with (first
          | (go_at_call 87; refine H17.out.mono ?_; rintro e W6 ⟨rfl, hb6⟩; have B6 := Lib.hid hb6; have p1 := below_cell hb6 k1; have p3 := below_cell hb6 g3; clear hb6)
          | (go_at_call 88; refine (H89.out W6 B6.out).mono ?_; rintro e W7 ⟨rfl, hb7⟩; have B7 := Lib.hid (hb0to B6.out hb7); clear hb7))
        go_ret
        exact ⟨by rw [ckF_no (bids_no HX.out hno.out)]; rfl, hb0to HBW.out (hb0to HB5.out B7.out)⟩
      rw [h4] at H89
      cases h5 : inR x.pay 0 99
      · have hno : Hid (bidOK f x = false) := Lib.hid (by simp [bidOK, h5])
        clear h1 h3 h4
        go_wp2_with (first
          | (go_at_call 87; refine H17.out.mono ?_; rintro e W6 ⟨rfl, hb6⟩; have B6 := Lib.hid hb6; have p1 := below_cell hb6 k1; have p3 := below_cell hb6 g3; clear hb6)
          | (go_at_call 88; refine (H89.out W6 B6.out).mono ?_; rintro e W7 ⟨rfl, hb7⟩; have B7 := Lib.hid (hb0to B6.out hb7); have p2 := below_cell B7.out k2; clear hb7)
          | (go_at_call 86; refine (rwithin_any _ _ _ _).mono ?_; rintro e w' ⟨rfl, rfl⟩))
        go_ret
        exact ⟨by rw [ckF_no (bids_no HX.out hno.out)]; rfl, hb0to HBW.out (hb0to HB5.out B7.out)⟩
      have hbk : Hid (bidOK f x = true) := Lib.hid (by have h1' : inR x.who 0 (f.nb - 1) = true := h1; have hne : x.bar ≠ [] := fun e => h3 (by rw [e]; rfl); simp [bidOK, h1', h4, h5, hne])
      clear h1 h3 h4
      go_wp2_with (first
        | (go_at_call 87; refine H17.out.mono ?_; rintro e W6 ⟨rfl, hb6⟩; have B6 := Lib.hid hb6; have p1 := below_cell hb6 k1; have p3 := below_cell hb6 g3; clear hb6)
        | (go_at_call 88; refine (H89.out W6 B6.out).mono ?_; rintro e W7 ⟨rfl, hb7⟩; have B7 := Lib.hid (hb0to B6.out hb7); have p2 := below_cell B7.out k2; clear hb7)
        | (go_at_call 86; refine (rwithin_any _ _ _ _).mono ?_; rintro e w' ⟨rfl, rfl⟩))
      go_roundw
      case rel => exact ⟨k + 1, by omega, by go_num, Lib.hid (fun m b hm hb' => by
        by_cases e : m = k
        · subst e
          have := HX.out.symm.trans hb'
          cases this
          exact hbk.out
        · exact hok.out m b (by omega) hb'), Lib.hid (hb0to HB5.out B7.out)⟩
      case measure => simp [intOf]; omega
    · obtain rfl : k = f.q.length := by omega
      have hall : Hid (f.q.all (bidOK f) = true) := Lib.hid (bids_all hok.out)
      clear hok hlt hk
      go_wp2_with (fail)
      go_ret
      exact ⟨by rw [ckF_yes (by rw [validF, HPK.out, HNU.out, hall.out]; rfl)]; rfl, hb0to HBW.out hb.out⟩
end Go.Proofs.Ytmbcpmnigggbaaa
namespace Go.Proofs.Ytmbcpmnigggbaaa
open Go.RowKit

open Go.RowKit

end Go.Proofs.Ytmbcpmnigggbaaa
namespace Go.Proofs.Ytmbcpmnigggbaaa
open Go.RowKit

/-! Good 50. -/
theorem bits_or : ∀ N, N ≤ 8 → ∀ j, j < N → ∀ m, m < 2 ^ j → bitsL N (m ||| 2 ^ j) = bitsL N m ++ [j] ∧ m ||| 2 ^ j < 2 ^ (j + 1) := by decide +kernel
def BoolEnd (r : Bool × Int) (e : Ending) : Prop := e = .returned (.tuple #[.bool r.1, .int .i64 r.2])
theorem BoolEnd.mk {r : Bool × Int} {x : Bool} {y : Int} (h : r = (x, y)) : BoolEnd r (.returned (.tuple #[.bool x, .int .i64 y])) := by unfold BoolEnd; rw [h]
/-- What Good knows of the first numbers of a list: their bits. -/
structure GoodTo (q : List Bid) (l : List Int) (k m b : Nat) : Prop where
  lt : m < 2 ^ b
  le : b ≤ q.length
  bits : bitsL q.length m = (l.take k).map Int.toNat
  last : 0 < k → (b : Int) = l.getD (k - 1) 0 + 1
  zero : k = 0 → b = 0
theorem GoodTo.next {q : List Bid} {l : List Int} {k m b n : Nat} (h : GoodTo q l k m b) (hq : q.length ≤ 8) (hx : l[k]? = some (n : Int)) (hn : n < q.length) (hb : b ≤ n) : GoodTo q l (k + 1) (m ||| 2 ^ n) (n + 1) := by
  obtain ⟨h1, h2⟩ := bits_or q.length hq n hn m (Nat.lt_of_lt_of_le h.lt (Nat.pow_le_pow_right (by omega) hb))
  refine ⟨h2, hn, ?_, fun _ => ?_, fun h => by omega⟩
  · rw [h1, h.bits, (take_snoc_next hx).symm, List.map_append]; simp
  · rw [Nat.add_sub_cancel, List.getD, hx]; simp
end Go.Proofs.Ytmbcpmnigggbaaa
namespace Go.Proofs.Ytmbcpmnigggbaaa
open Go.RowKit

open Go.RowKit

end Go.Proofs.Ytmbcpmnigggbaaa
namespace Go.Proofs.Ytmbcpmnigggbaaa
open Go.RowKit

open Go.RowKit

/-- All sales, in order. -/
structure SalesL (q : List Bid) (rd : List Int) (S : List (List Nat)) : Prop where
  up : S.Pairwise aheadP
  mem : ∀ l, l ∈ S ↔ SaleL q rd l
  len : S.length ≤ 100000
theorem SalesL.first {q : List Bid} {rd : List Int} {S : List (List Nat)} (h : SalesL q rd S) : S[0]? = some [] := by
  obtain ⟨j, hj⟩ := List.getElem?_of_mem ((h.mem []).2 (SaleL.nil q rd))
  obtain ⟨k1, k2⟩ := List.getElem?_eq_some_iff.1 hj
  rcases Nat.eq_zero_or_pos j with e | e
  · subst e; exact hj
  · exfalso
    have := List.pairwise_iff_getElem.1 h.up 0 j (by omega) k1 e
    rw [k2] at this
    rcases this with h1 | ⟨h1, h2⟩
    · simp at h1
    · have h3 := List.length_eq_zero_iff.1 h1
      rw [h3] at h2; simp [earlierN] at h2
open Go.RowKit

/-! The specification's WinnersOf 81, MostOf 79, Most 41, Winners 43, Known 108, wonOf 83, Won 44. -/
def IntsRet (l : List Int) (lo : Nat) (w' : World) (e : Ending) : Prop := ∃ A c, e = .returned (.slice A l.length c) ∧ (A = none → c = 0 ∧ l = []) ∧ IntsIn w' lo w'.heap.size A l
theorem IntsRet.of {l : List Int} {lo : Nat} {w' : World} {e : Ending} {v : Value} (he : e = .returned v) (h : Ints w' lo v l) : IntsRet l lo w' e := by
  obtain ⟨A, c, h1, h2, _, h3⟩ := h.lay
  exact ⟨A, c, by rw [he, h1], h2, h3⟩
end Go.Proofs.Ytmbcpmnigggbaaa
