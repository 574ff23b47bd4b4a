import Derived.Test.YtmconopnplgcfaaFJ
namespace Go.Proofs.Ytmconopnplgcfaa
open Go.RowKit

/-! Good 50. -/
theorem bits_or : ∀ N, N ≤ 8 → ∀ j, j < N → ∀ m, m < 2 ^ j → bitsL N (m ||| 2 ^ j) = bitsL N m ++ [j] ∧ m ||| 2 ^ j < 2 ^ (j + 1) := by decide +kernel
def goodV (f : Fair) (l : List Int) : Bool := riseB l f.q.length && saleB f.q (rdF f) (l.map Int.toNat)
def boolRF (f : Fair) (is : Bool) (v : Bool) : Bool × Int := if askF f is = 0 then (v, 0) else (false, askF f is)
theorem boolRF_ok {f : Fair} {is : Bool} {v : Bool} (h : askF f is = 0) : boolRF f is v = (v, 0) := if_pos h
theorem boolRF_no {f : Fair} {is : Bool} {v : Bool} {er : Int} (h : er = askF f is) (h0 : er ≠ 0) : boolRF f is v = (false, er) := by
  unfold boolRF; rw [if_neg (by rw [← h]; exact h0), h]
def BoolEnd (r : Bool × Int) (e : Ending) : Prop := e = .returned (.tuple #[.bool r.1, .int .i64 r.2])
theorem BoolEnd.mk {r : Bool × Int} {x : Bool} {y : Int} (h : r = (x, y)) : BoolEnd r (.returned (.tuple #[.bool x, .int .i64 y])) := by unfold BoolEnd; rw [h]
def goodRetF (f : Fair) (l : List Int) : Bool × Int := boolRF f true (goodV f l)
/-- What Good knows of the first numbers of a list: their bits. -/
structure GoodTo (q : List Bid) (l : List Int) (k m b : Nat) : Prop where
  lt : m < 2 ^ b
  le : b ≤ q.length
  bits : bitsL q.length m = (l.take k).map Int.toNat
  last : 0 < k → (b : Int) = l.getD (k - 1) 0 + 1
  zero : k = 0 → b = 0
theorem GoodTo.start (q : List Bid) (l : List Int) : GoodTo q l 0 0 0 := ⟨by simp, Nat.zero_le _, by rw [bits_zero]; rfl, fun h => by omega, fun _ => rfl⟩
theorem GoodTo.next {q : List Bid} {l : List Int} {k m b n : Nat} (h : GoodTo q l k m b) (hq : q.length ≤ 8) (hx : l[k]? = some (n : Int)) (hn : n < q.length) (hb : b ≤ n) : GoodTo q l (k + 1) (m ||| 2 ^ n) (n + 1) := by
  obtain ⟨h1, h2⟩ := bits_or q.length hq n hn m (Nat.lt_of_lt_of_le h.lt (Nat.pow_le_pow_right (by omega) hb))
  refine ⟨h2, hn, ?_, fun _ => ?_, fun h => by omega⟩
  · rw [h1, h.bits, (take_snoc_next hx).symm, List.map_append]; simp
  · rw [Nat.add_sub_cancel, List.getD, hx]; simp
set_option maxRecDepth 100000 in
set_option maxHeartbeats 4000000 in
theorem Good50_any (F : FL) (f : Fair) (hn : FN f) (l : List Int) (hl : l.length ≤ 1000) (A : Option Addr) (c : Nat) (w : World) (hF : FairAt w w.heap.size F f) (hI : IntsAt w w.heap.size A l) : Calls Try.prog 50 #[F.enc f, .slice A l.length c] w fun e w' => BoolEnd (goodRetF f l) e ∧ Below w.heap.size w w' := by
  have hbw := al_below w (.cells #[.slice F.L.Ak f.h.ks.length F.L.ck, .int .i64 f.h.fl, .slice F.L.Ap f.h.ps.length F.L.cp, .slice F.L.Ab f.h.bs.length F.L.cb, .slice F.Ap f.pk.length F.cp, .int .i64 f.day, .int .i64 f.nb, .slice F.Aq f.q.length F.cq] 29)
  have HB := Lib.hid (FBox.new w F f)
  obtain ⟨c0, c1, c2, c3, c4, c5, c6, c7⟩ := (FBox.new w F f).cells
  obtain ⟨W0, hW0⟩ : ∃ W0, w.alloc (.cells #[.slice F.L.Ak f.h.ks.length F.L.ck, .int .i64 f.h.fl, .slice F.L.Ap f.h.ps.length F.L.cp, .slice F.L.Ab f.h.bs.length F.L.cb, .slice F.Ap f.pk.length F.cp, .int .i64 f.day, .int .i64 f.nb, .slice F.Aq f.q.length F.cq] 29) = W0 := ⟨_, rfl⟩
  rw [hW0] at hbw HB c0 c1 c2 c3 c4 c5 c6 c7
  have HBW := Lib.hid hbw
  have HW0 := Lib.hid hW0
  have HF := Lib.hid (hF.below hbw)
  clear hbw hW0 hF
  have HN := Lib.hid hn
  have HI := Lib.hid (ints_later hI HBW.out)
  clear hn hI
  by_cases h0 : askF f true = 0
  · have H66 := Lib.hid (open_yes F f true HN.out W0 HF.out h0)
    have HV := Lib.hid (askF_ok h0).1
    have HFO := Lib.hid (FOK.of HV.out)
    have HA := Lib.hid h0
    clear h0
    obtain ⟨L, Ap, cp, Aq, cq⟩ := F
    go_enter Try.func50, Try.ntmps50
    go_upto_region 1 with (fail)
    have e := HW0.out
    rw [e]
    clear e
    go_wp2_with (first
      | (go_at_call 66; refine (H66.out).mono ?_; rintro e w1 ⟨⟨b, rfl, hbb, hO⟩, hb1⟩; have B1 := Lib.hid hb1; have HO := Lib.hid hO; have HBB := Lib.hid hbb; have r7 := (HB.out.of (hb1.block _ HB.out.lt)).cells.2.2.2.2.2.2.2; clear hb1 hO hbb)
      | (fail))
    clear r7
    go_loopw [21, 8] (fun i s wr => ∃ (k m b' : Nat), k ≤ l.length ∧ i = .int .i64 k ∧ s = .int .i64 (m : Int) ∧ Hid (GoodTo f.q l k m b') ∧ Hid (∀ j, j < k → riseOK l f.q.length j = true) ∧ Hid (Below w1.heap.size w1 wr)) (fun i _ _ => l.length - (intOf i).toNat)
    case atStart => exact ⟨0, 0, 0, Nat.zero_le _, rfl, rfl, Lib.hid (GoodTo.start _ _), Lib.hid (fun j hj => by omega), Lib.hid (Below.refl _ _)⟩
    case round =>
      obtain ⟨k, m, b', hk, rfl, rfl, hG, hrise, hb⟩ := hrel
      have hbw := hb0to B1.out hb.out
      have r7 := (HB.out.of (hbw.block _ HB.out.lt)).cells.2.2.2.2.2.2.2
      have hql := HFO.out.ql
      by_cases hlt : k < l.length
      · obtain ⟨y, hy⟩ : ∃ y, l[k]? = some y := ⟨_, List.getElem?_eq_getElem hlt⟩
        have hgy : l.getD k 0 = y := by simp [List.getD, hy]
        obtain ⟨b1, o1, e1, b1lt, d1⟩ := HI.out.at_ hy
        have u1 := below_cell hbw d1
        subst e1
        clear d1
        cases hr : inR y 0 ((f.q.length : Int) - 1)
        · have hno : Hid (riseOK l f.q.length k = false) := Lib.hid (by rw [riseOK, hgy, hr]; rfl)
          have HNO := Lib.hid (show goodRetF f l = (false, 0) by unfold goodRetF; rw [boolRF_ok HA.out]; unfold goodV; rw [riseB_no hlt hno.out]; rfl)
          clear hy hgy
          go_wp2_with (go_at_call 67; refine (swithin_any _ _ _ _).mono ?_; rintro e w' ⟨rfl, rfl⟩)
          go_ret2
          exact ⟨BoolEnd.mk HNO.out, hb0to HBW.out hbw⟩
        have hyr := inR_true.1 hr
        obtain ⟨n, rfl⟩ := Int.eq_ofNat_of_zero_le hyr.1
        have hnq : n < f.q.length := by omega
        have hm8 : m < 256 := Nat.lt_of_lt_of_le hG.out.lt (Nat.le_trans (Nat.pow_le_pow_right (by omega) hG.out.le) (pow_eight hql))
        have HSH := Lib.hid (shl8 n (by omega))
        have HOR := Lib.hid (or_bits8 m hm8 n (by omega)).1
        rcases Nat.eq_zero_or_pos k with rfl | hj0
        · have hyes : Hid (riseOK l f.q.length 0 = true) := Lib.hid (by rw [riseOK, hgy, hr]; rfl)
          have HG2 := Lib.hid (hG.out.next hql hy hnq (by rw [hG.out.zero rfl]; omega))
          simp only [Nat.add_zero] at u1
          clear hy hgy
          go_wp2_with (go_at_call 67; refine (swithin_any _ _ _ _).mono ?_; rintro e w' ⟨rfl, rfl⟩)
          go_roundw
          case rel => exact ⟨1, m ||| 2 ^ n, n + 1, by omega, by go_num, congrArg _ (by rw [HSH.out, HOR.out]), HG2, Lib.hid (fun j hj => by obtain rfl : j = 0 := (by omega); exact hyes.out), hb⟩
          case measure => simp [intOf]; omega
        · obtain ⟨z, hz⟩ : ∃ z, l[k - 1]? = some z := ⟨_, List.getElem?_eq_getElem (by omega)⟩
          have hgz : l.getD (k - 1) 0 = z := by simp [List.getD, hz]
          obtain ⟨b1', o1', e', _, c2⟩ := HI.out.at_ hz
          cases e'
          have hd0 : decide (0 < k) = true := by simp; omega
          have ht3 : (1 : Int) ≤ (k : Int) := by omega
          have ht2 : (0 : Int) ≤ (k : Int) - 1 := by omega
          have ht4 : (k : Int) - 1 < l.length := by omega
          have ec : IntKind.i64.wrap ((k : Int) - 1) = ((k - 1 : Nat) : Int) := by rw [IntWalk.i64_in _ (by omega)]; omega
          have u2 := below_cell hbw c2
          have hk1 : ((k - 1 : Nat) : Int) < l.length := by omega
          have hk2 : k - 1 < l.length := by omega
          clear c2
          by_cases hyz : (n : Int) ≤ z
          · have hdx : decide ((n : Int) ≤ z) = true := by simpa using hyz
            have hno : Hid (riseOK l f.q.length k = false) := Lib.hid (by rw [riseOK, hgy, hgz, hr]; simp; omega)
            have HNO := Lib.hid (show goodRetF f l = (false, 0) by unfold goodRetF; rw [boolRF_ok HA.out]; unfold goodV; rw [riseB_no hlt hno.out]; rfl)
            clear hy hgy hz hgz
            go_wp2_with (go_at_call 67; refine (swithin_any _ _ _ _).mono ?_; rintro e w' ⟨rfl, rfl⟩)
            go_ret2
            exact ⟨BoolEnd.mk HNO.out, hb0to HBW.out hbw⟩
          · have hdx : decide ((n : Int) ≤ z) = false := by simpa using hyz
            have hyes : Hid (riseOK l f.q.length k = true) := Lib.hid (by rw [riseOK, hgy, hgz, hr]; simp; omega)
            have HG2 := Lib.hid (hG.out.next hql hy hnq (by have := hG.out.last hj0; rw [hgz] at this; omega))
            clear hy hgy hz hgz
            go_wp2_with (go_at_call 67; refine (swithin_any _ _ _ _).mono ?_; rintro e w' ⟨rfl, rfl⟩)
            go_roundw
            case rel => exact ⟨k + 1, m ||| 2 ^ n, n + 1, by omega, by go_num, congrArg _ (by rw [HSH.out, HOR.out]), HG2, Lib.hid (fun j hj => by by_cases e : j = k; exact e ▸ hyes.out; exact hrise.out j (by omega)), hb⟩
            case measure => simp [intOf]; omega
      · obtain rfl : k = l.length := by omega
        have hG2 := hG.out
        have hbits := hG2.bits
        rw [List.take_length] at hbits
        have hm2 : m < 2 ^ f.q.length := Nat.lt_of_lt_of_le hG2.lt (Nat.pow_le_pow_right (by omega) hG2.le)
        have H91 := Lib.hid (by have := brings_any _ f HFO.out (rdF f) b m hm2 wr (HO.out.below hb.out); rw [hbits] at this; exact this)
        have HQ := Lib.hid (show goodRetF f l = (saleB f.q (rdF f) (l.map Int.toNat), 0) by unfold goodRetF; rw [boolRF_ok HA.out]; unfold goodV; rw [riseB_yes hrise.out]; rfl)
        have hz0 := brings_nonneg HFO.out.pos (l.map Int.toNat)
        have HBV := Lib.hid (show brV f.q (rdF f) (l.map Int.toNat) = if saleB f.q (rdF f) (l.map Int.toNat) = true then bringsL f.q (l.map Int.toNat) else -1 from rfl)
        generalize bringsL f.q (l.map Int.toNat) = z at hz0 HBV
        generalize brV f.q (rdF f) (l.map Int.toNat) = v at H91 HBV
        clear hG2 hbits hm2 hG hrise r7
        cases hs : saleB f.q (rdF f) (l.map Int.toNat)
        · rw [hs] at HBV HQ
          obtain rfl : v = -1 := HBV.out
          clear hs
          go_wp2_with (go_at_call 91; refine H91.out.mono ?_; rintro e w2 ⟨rfl, hb2⟩; have B2 := Lib.hid hb2; clear hb2)
          go_ret2
          exact ⟨BoolEnd.mk HQ.out, hb0to HBW.out (hb0to hbw B2.out)⟩
        · rw [hs] at HBV HQ
          obtain rfl : v = z := HBV.out
          have hd : decide (0 ≤ v) = true := decide_eq_true hz0
          clear hs
          go_wp2_with (go_at_call 91; refine H91.out.mono ?_; rintro e w2 ⟨rfl, hb2⟩; have B2 := Lib.hid hb2; clear hb2)
          go_ret2
          exact ⟨BoolEnd.mk HQ.out, hb0to HBW.out (hb0to hbw B2.out)⟩
  · have H66 := Lib.hid (open_no F f true HN.out W0 HF.out h0)
    obtain ⟨er, her⟩ : ∃ x, x = askF f true := ⟨_, rfl⟩
    have HQ := Lib.hid her
    rw [← her] at H66 h0
    have hd : (er != 0) = true := bne_iff_ne.2 h0
    clear h0 her
    obtain ⟨L, Ap, cp, Aq, cq⟩ := F
    go_enter Try.func50, Try.ntmps50
    go_upto_region 1 with (fail)
    have e := HW0.out
    rw [e]
    clear e
    go_wp2_with (go_at_call 66; refine (H66.out).mono ?_; rintro e w1 ⟨rfl, hb1⟩; have B1 := Lib.hid hb1; clear hb1)
    go_ret2
    exact ⟨BoolEnd.mk (boolRF_no HQ.out (bne_iff_ne.1 hd)), hb0to HBW.out B1.out⟩

end Go.Proofs.Ytmconopnplgcfaa
