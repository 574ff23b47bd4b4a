import Derived.Test.YtmbcpmnigggbaaaUD
namespace Go.Proofs.Ytmbcpmnigggbaaa
open Go.RowKit
def hugeB (h : House) : Bool := decide (40 < h.ks.length) || (decide (40 < h.ps.length) || decide (40 < h.bs.length))
set_option maxRecDepth 100000 in
set_option maxHeartbeats 4000000 in
theorem huge_any (L : HL) (h : House) (w : World) :
    Calls Try.prog 10 #[L.enc h] w fun e w' => e = .returned (.bool (hugeB h)) ∧ Below w.heap.size w w' := by
  have hbw := Lib.hid ((Below.refl w.heap.size w).alloc (Nat.le_refl _) (.cells #[.slice L.Ak h.ks.length L.ck, .int .i64 h.fl, .slice L.Ap h.ps.length L.cp, .slice L.Ab h.bs.length L.cb] 27))
  obtain ⟨Ak, ck, Ap, cp, Ab, cb⟩ := L
  by_cases k1 : 40 < h.ks.length
  · have hv : hugeB h = true := by simp [hugeB, k1]
    rw [hv]; clear hv
    go_enter Try.func10, Try.ntmps10
    go_wp2
    go_ret
    exact ⟨rfl, hbw.out⟩
  · have k2 : h.ks.length ≤ 40 := by omega
    by_cases p1 : 40 < h.ps.length
    · have hv : hugeB h = true := by simp [hugeB, p1]
      rw [hv]; clear hv k1
      go_enter Try.func10, Try.ntmps10
      go_wp2
      go_ret
      exact ⟨congrArg (fun b => Ending.returned (.bool b)) (by first | (simp; done) | (simp; omega)), hbw.out⟩
    · have p2 : h.ps.length ≤ 40 := by omega
      by_cases b1 : 40 < h.bs.length
      · have hv : hugeB h = true := by simp [hugeB, b1]
        rw [hv]; clear hv k1 p1
        go_enter Try.func10, Try.ntmps10
        go_wp2
        go_ret
        exact ⟨congrArg (fun b => Ending.returned (.bool b)) (by first | (simp; done) | (simp; omega)), hbw.out⟩
      · have b2 : h.bs.length ≤ 40 := by omega
        have hv : hugeB h = false := by simp [hugeB]; omega
        rw [hv]; clear hv k1 p1 b1
        go_enter Try.func10, Try.ntmps10
        go_wp2
        go_ret
        exact ⟨congrArg (fun b => Ending.returned (.bool b)) (by first | (simp; done) | (simp; omega)), hbw.out⟩
def farB (h : House) : Bool := hugeB h || (validH h && decide (700 < (h.bs.length + 1) ^ h.ps.length))
theorem pow_le {a k : Nat} (ha : a ≤ 4) (hk : k ≤ 6) : (a + 1) ^ k ≤ 15625 :=
  Nat.le_trans (Nat.pow_le_pow_left (Nat.succ_le_succ ha) k) (Nat.le_trans (Nat.pow_le_pow_right (by decide) hk) (by decide))
theorem huge_no {h : House} (hh : hugeB h = false) : h.ks.length ≤ 40 ∧ h.ps.length ≤ 40 ∧ h.bs.length ≤ 40 := by
  simp only [hugeB, Bool.or_eq_false_iff, decide_eq_false_iff_not] at hh
  omega
set_option maxRecDepth 100000 in
set_option maxHeartbeats 4000000 in
theorem far_any (L : HL) (h : House) (w : World) (hH : HouseAt w w.heap.size L h) :
    Calls Try.prog 12 #[L.enc h] w fun e w' => e = .returned (.bool (farB h)) ∧ Below w.heap.size w w' := by
  have hbw := (Below.refl w.heap.size w).alloc (Nat.le_refl _) (.cells #[.slice L.Ak h.ks.length L.ck, .int .i64 h.fl, .slice L.Ap h.ps.length L.cp, .slice L.Ab h.bs.length L.cb] 27)
  have HB := Lib.hid (HBox.new w L h)
  have hc0 := (HBox.new w L h).cells
  obtain ⟨W0, hW0⟩ : ∃ W0, w.alloc (.cells #[.slice L.Ak h.ks.length L.ck, .int .i64 h.fl, .slice L.Ap h.ps.length L.cp, .slice L.Ab h.bs.length L.cb] 27) = W0 := ⟨_, rfl⟩
  rw [hW0] at hbw HB hc0
  have HU := Lib.hid (huge_any L h W0)
  have HBW := Lib.hid hbw
  have HW0 := Lib.hid hW0
  have HH := Lib.hid (hH.below hbw)
  clear hbw hW0 hH
  cases hh : hugeB h
  · have hf : farB h = (validH h && decide (700 < (h.bs.length + 1) ^ h.ps.length)) := by rw [farB, hh]; rfl
    rw [hf]
    have hn := huge_no hh
    clear hf
    have HC := Lib.hid (rcheck_any L h ⟨by omega, by omega, by omega⟩)
    have HH' := Lib.hid hh
    clear hh hn
    cases hv : validH h
    · have hck : ckH h = 80 := ckH_no hv
      obtain ⟨Ak, ck, Ap, cp, Ab, cb⟩ := L
      go_enter Try.func12, Try.ntmps12
      go_upto_region 1 with (fail)
      have e := HW0.out
      rw [e]
      clear e
      go_wp2_with (first
        | (go_at_call 10; refine (HU.out).mono ?_; rintro e w1 ⟨rfl, hb1⟩; rw [HH'.out]; have HB1 := Lib.hid hb1; have hc1 := (HB.out.of (hb1.block _ HB.out.lt)).cells; clear hb1)
        | (go_at_call 11; refine (HC.out w1 (HH.out.below HB1.out)).mono ?_; rintro e w2 ⟨rfl, hb2⟩; rw [hck]; have HB2 := Lib.hid (hb0to HB1.out hb2); clear hb2))
      go_ret
      exact ⟨rfl, hb0to HBW.out HB2.out⟩
    · have hck : ckH h = 0 := ckH_yes hv
      have hV := HOK.ofValid hv
      have hbl := hV.bl
      have hpl := hV.pl
      obtain ⟨Ak, ck, Ap, cp, Ab, cb⟩ := L
      clear hV hv
      go_enter Try.func12, Try.ntmps12
      go_upto_region 1 with (fail)
      have e := HW0.out
      rw [e]
      clear e
      go_wp2_with (first
        | (go_at_call 10; refine (HU.out).mono ?_; rintro e w1 ⟨rfl, hb1⟩; rw [HH'.out]; have HB1 := Lib.hid hb1; have hc1 := (HB.out.of (hb1.block _ HB.out.lt)).cells; clear hb1)
        | (go_at_call 11; refine (HC.out w1 (HH.out.below HB1.out)).mono ?_; rintro e w2 ⟨rfl, hb2⟩; rw [hck]; have HB2 := Lib.hid (hb0to HB1.out hb2); clear hb2))
      clear hc0 hc1
      go_loopw [3, 4] (fun n i wr => ∃ k : Nat, k ≤ h.ps.length ∧ i = .int .i64 k ∧ n = .int .i64 ((h.bs.length + 1) ^ k : Nat) ∧ Below W0.heap.size W0 wr) (fun _ i _ => h.ps.length - (intOf i).toNat)
      case atStart => exact ⟨0, Nat.zero_le _, rfl, rfl, HB2.out⟩
      case round =>
        obtain ⟨k, hk, rfl, rfl, hb⟩ := hrel
        have hc := (HB.out.of (hb.block _ HB.out.lt)).cells
        have hP := pow_le hbl (Nat.le_trans hk hpl)
        have hPs := pow_le (k := k) hbl (by omega)
        obtain ⟨P, hPe⟩ : ∃ P, P = (h.bs.length + 1) ^ k := ⟨_, rfl⟩
        rw [← hPe] at hP hPs ⊢
        by_cases hlt : k < h.ps.length
        · have hP2 := pow_le (k := k + 1) hbl (by omega)
          rw [Nat.pow_succ, ← hPe] at hP2
          have q0 : (0 : Int) ≤ (P : Int) * ((h.bs.length : Int) + 1) := by have := Int.natCast_nonneg (P * (h.bs.length + 1)); push_cast at this; exact this
          have q2 : ((P * (h.bs.length + 1) : Nat) : Int) ≤ 15625 := by omega
          have q1 : (P : Int) * ((h.bs.length : Int) + 1) ≤ 15625 := by push_cast at q2; exact q2
          clear q2
          have HN := Lib.hid (show (P : Int) * ((h.bs.length : Int) + 1) = ((h.bs.length + 1) ^ (k + 1) : Nat) by rw [Nat.pow_succ, ← hPe]; push_cast; rfl)
          clear hPe
          go_wp2
          go_roundw
          case rel => exact ⟨k + 1, by omega, by go_num, by rw [← HN.out], hb⟩
          case measure => simp [intOf]; omega
        · obtain rfl : k = h.ps.length := by omega
          have HE := Lib.hid hPe
          clear hPe
          go_wp2
          go_ret
          exact ⟨by rw [← HE.out]; simp; omega, hb0to HBW.out hb⟩
  · have hf : farB h = true := by rw [farB, hh]; rfl
    rw [hf]
    have HH' := Lib.hid hh
    clear hh hf
    obtain ⟨Ak, ck, Ap, cp, Ab, cb⟩ := L
    go_enter Try.func12, Try.ntmps12
    go_upto_region 1 with (fail)
    have e := HW0.out
    rw [e]
    clear e
    go_wp2_with (go_at_call 10; refine (HU.out).mono ?_; rintro e w1 ⟨rfl, hb1⟩; rw [HH'.out]; have HB1 := Lib.hid hb1; clear hb1)
    go_ret
    exact ⟨rfl, hb0to HBW.out HB1.out⟩

set_option maxRecDepth 100000 in
set_option maxHeartbeats 4000000 in
theorem rIn_any (l : List Int) (hl : l.length ≤ 1000) (x : Int) (A : Option Addr) (c : Nat) (w : World) (hI : IntsAt w w.heap.size A l) :
    Calls Try.prog 77 #[.slice A l.length c, .int .i64 x] w fun e w' => e = .returned (.bool (decide (x ∈ l))) ∧ Below w.heap.size w w' := by
  have HI := Lib.hid hI
  clear hI
  go_enter Try.func77, Try.ntmps77
  go_wp2
  go_loopw [5] (fun i wr => ∃ k : Nat, k ≤ l.length ∧ i = .int .i64 k ∧ Hid (∀ j, j < k → l[j]? ≠ some x) ∧ Below w.heap.size w wr) (fun i _ => l.length - (intOf i).toNat)
  case atStart => exact ⟨0, Nat.zero_le _, rfl, Lib.hid (fun j hj => by omega), Below.refl _ _⟩
  case round =>
    obtain ⟨k, hk', rfl, hno, hb⟩ := hrel
    by_cases hlt : k < l.length
    · obtain ⟨y, hy⟩ : ∃ y, l[k]? = some y := ⟨_, List.getElem?_eq_getElem hlt⟩
      obtain ⟨b1, o1, rfl, b1lt, d1⟩ := HI.out.at_ hy
      have e1 := below_cell hb d1
      have hki : (k : Int) < l.length := by omega
      have hk0' : (0 : Int) ≤ (k : Int) := by omega
      have HY := Lib.hid hy
      clear hy d1
      by_cases hxy : y = x
      · subst hxy
        have HE := Lib.hid (show decide (y ∈ l) = true from decide_eq_true (List.mem_of_getElem? HY.out))
        go_wp2
        go_ret
        exact ⟨by rw [HE.out]; rfl, hb⟩
      · have HN := Lib.hid (show ∀ j, j < k + 1 → l[j]? ≠ some x from fun j hj => by
          rcases Nat.lt_succ_iff_lt_or_eq.1 hj with h1 | rfl
          · exact hno.out j h1
          · rw [HY.out]; simpa using hxy)
        have hne : decide (y = x) = false := decide_eq_false hxy
        clear hno
        go_wp2
        go_roundw
        case rel => exact ⟨k + 1, by omega, by go_num, HN, hb⟩
        case measure => simp [intOf]; omega
    · obtain rfl : k = l.length := by omega
      have HE := Lib.hid (show decide (x ∈ l) = false from decide_eq_false fun hm => by
        obtain ⟨j, hj, e⟩ := List.mem_iff_getElem.1 hm
        exact hno.out j hj (by rw [List.getElem?_eq_getElem hj, e]))
      clear hno
      go_wp2
      go_ret
      exact ⟨by rw [HE.out]; rfl, hb⟩
end Go.Proofs.Ytmbcpmnigggbaaa
