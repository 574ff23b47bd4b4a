import Derived.Test.YtmconopnplgcfaaFH
namespace Go.Proofs.Ytmconopnplgcfaa
open Go.RowKit

/-! The program's functions: Most 40, Winners 42, Ready 29, Paid 32, Won 36, Pays 23, Need 37. -/
abbrev rdF (f : Fair) : List Int := readyL f.h f.pk f.day
def numRF (f : Fair) (is : Bool) (v : Int) : Int × Int := if askF f is = 0 then (v, 0) else (0, askF f is)
theorem numRF_ok {f : Fair} {is : Bool} {v : Int} (h : askF f is = 0) : numRF f is v = (v, 0) := if_pos h
theorem numRF_no {f : Fair} {is : Bool} {v er : Int} (h : er = askF f is) (h0 : er ≠ 0) : numRF f is v = (0, er) := by
  unfold numRF; rw [if_neg (by rw [← h]; exact h0), h]
def NumEnd (r : Int × Int) (e : Ending) : Prop := e = .returned (.tuple #[.int .i64 r.1, .int .i64 r.2])
theorem NumEnd.mk {r : Int × Int} {x y : Int} (h : r = (x, y)) : NumEnd r (.returned (.tuple #[.int .i64 x, .int .i64 y])) := by unfold NumEnd; rw [h]
def listRF (f : Fair) (is : Bool) (l : List Int) : List Int × Int := if askF f is = 0 then (l, 0) else ([], askF f is)
theorem listRF_ok {f : Fair} {is : Bool} {v : List Int} (h : askF f is = 0) : listRF f is v = (v, 0) := if_pos h
theorem listRF_no {f : Fair} {is : Bool} {v : List Int} {er : Int} (h : er = askF f is) (h0 : er ≠ 0) : listRF f is v = ([], er) := by
  unfold listRF; rw [if_neg (by rw [← h]; exact h0), h]
def ListEnd (r : List Int × Int) (B : Nat) (w' : World) (e : Ending) : Prop := ∃ v, e = .returned (.tuple #[v, .int .i64 r.2]) ∧ Ints w' B v r.1
theorem ListEnd.mk {r : List Int × Int} {B : Nat} {w' : World} {v : Value} {l : List Int} {y : Int} (h : r = (l, y)) (hv : Ints w' B v l) : ListEnd r B w' (.returned (.tuple #[v, .int .i64 y])) := by subst h; exact ⟨v, rfl, hv⟩
/-- An ascending list is what its bits are. -/
theorem sorted_ext : ∀ {l m : List Int}, l.Pairwise (· < ·) → m.Pairwise (· < ·) → (∀ x, x ∈ l ↔ x ∈ m) → l = m
  | [], [], _, _, _ => rfl
  | [], y :: m, _, _, h => by have := (h y).2 (by simp); simp at this
  | x :: l, [], _, _, h => by have := (h x).1 (by simp); simp at this
  | x :: l, y :: m, hl, hm, h => by
    have hl' := List.pairwise_cons.1 hl
    have hm' := List.pairwise_cons.1 hm
    have e : x = y := by
      have h1 := (h x).1 (by simp)
      have h2 := (h y).2 (by simp)
      rcases List.mem_cons.1 h1 with h1 | h1
      · exact h1
      · rcases List.mem_cons.1 h2 with h2 | h2
        · exact h2.symm
        · have := hm'.1 x h1; have := hl'.1 y h2; omega
    subst e
    congr 1
    refine sorted_ext hl'.2 hm'.2 fun z => ?_
    have hz := h z
    rw [List.mem_cons, List.mem_cons] at hz
    constructor
    · intro h1
      rcases hz.1 (.inr h1) with e | e
      · subst e; have := hl'.1 z h1; omega
      · exact e
    · intro h1
      rcases hz.2 (.inr h1) with e | e
      · subst e; have := hm'.1 z h1; omega
      · exact e
theorem intsN_up {l : List Nat} (h : l.Pairwise (· < ·)) : (intsN l).Pairwise (· < ·) := by
  unfold intsN
  rw [List.pairwise_map]
  exact h.imp fun h => by omega
theorem readyL_up (h : House) (pk : List Int) (day : Int) : (readyL h pk day).Pairwise (· < ·) := by
  unfold readyL
  refine List.Pairwise.filter _ ?_
  rw [List.pairwise_map]
  exact List.pairwise_lt_range.imp fun h => by omega
theorem ready_bits {h : House} {pk : List Int} {day : Int} {u : Nat} (hb : h.bs.length ≤ 4) (hu : MaskOf (readyL h pk day) u) : intsN (bitsL 8 u) = readyL h pk day := by
  refine sorted_ext (intsN_up (bits_up 8 u)) (readyL_up h pk day) fun x => ?_
  have h8 : ∀ i, 4 ≤ i → u.testBit i = false := fun i hi => Nat.testBit_lt_two_pow (Nat.lt_of_lt_of_le hu.lt (by
    have : 2 ^ 4 ≤ 2 ^ i := Nat.pow_le_pow_right (by omega) hi
    omega))
  unfold intsN
  rw [List.mem_map]
  constructor
  · rintro ⟨i, hi, rfl⟩
    obtain ⟨_, h2⟩ := mem_bits.1 hi
    by_cases h4 : i < 4
    · exact (hu.bit i h4).1 h2
    · rw [h8 i (by omega)] at h2; cases h2
  · intro hx
    have hr := readyL_in x hx
    refine ⟨x.toNat, mem_bits.2 ⟨by omega, ?_⟩, by omega⟩
    refine (hu.bit x.toNat (by omega)).2 ?_
    rw [show ((x.toNat : Nat) : Int) = x by omega]; exact hx
def mostRet (f : Fair) : Int × Int := numRF f true (mostV f.q (rdF f))
def winRet (f : Fair) : List Int × Int := listRF f true (intsN (winL f.q (rdF f)))
def readyRet (f : Fair) : List Int × Int := listRF f true (rdF f)
def paidRet (f : Fair) : Int × Int := numRF f true (paidTo f.q (rdF f) f.nb.toNat)
def isBid (f : Fair) (x : Int) : Bool := inR x 0 ((f.q.length : Int) - 1)
def isBuyer (f : Fair) (x : Int) : Bool := inR x 0 (f.nb - 1)
def wonRet (f : Fair) (x : Int) : Int × Int := numRF f (isBid f x) (wonN (withV f.q (rdF f) x.toNat) (outV f.q (rdF f) x.toNat))
def payRet (f : Fair) (x : Int) : Int × Int := numRF f (isBuyer f x) (payV f.q (rdF f) x)
def needV (f : Fair) (i : Nat) : Int := needN (withV f.q (rdF f) i) (outV f.q (rdF f) i) (payAt f.q i)
def needRet (f : Fair) (x : Int) : Int × Int := if askF f (isBid f x) = 0 then (if 99 < needV f x.toNat then (0, 3) else (needV f x.toNat, 0)) else (0, askF f (isBid f x))
set_option maxRecDepth 100000 in
set_option maxHeartbeats 4000000 in
theorem Most_any (F : FL) (f : Fair) (hn : FN f) (w : World) (hF : FairAt w w.heap.size F f) : Calls Try.prog 40 #[F.enc f] w fun e w' => NumEnd (mostRet f) e ∧ Below w.heap.size w w' := by
  have hbw := al_below w (.cells #[.slice F.L.Ak f.h.ks.length F.L.ck, .int .i64 f.h.fl, .slice F.L.Ap f.h.ps.length F.L.cp, .slice F.L.Ab f.h.bs.length F.L.cb, .slice F.Ap f.pk.length F.cp, .int .i64 f.day, .int .i64 f.nb, .slice F.Aq f.q.length F.cq] 29)
  have HB := Lib.hid (FBox.new w F f)
  obtain ⟨c0, c1, c2, c3, c4, c5, c6, c7⟩ := (FBox.new w F f).cells
  obtain ⟨W0, hW0⟩ : ∃ W0, w.alloc (.cells #[.slice F.L.Ak f.h.ks.length F.L.ck, .int .i64 f.h.fl, .slice F.L.Ap f.h.ps.length F.L.cp, .slice F.L.Ab f.h.bs.length F.L.cb, .slice F.Ap f.pk.length F.cp, .int .i64 f.day, .int .i64 f.nb, .slice F.Aq f.q.length F.cq] 29) = W0 := ⟨_, rfl⟩
  rw [hW0] at hbw HB c0 c1 c2 c3 c4 c5 c6 c7
  have HBW := Lib.hid hbw
  have HW0 := Lib.hid hW0
  have HF := Lib.hid (hF.below hbw)
  clear hbw hW0 hF
  have HN := Lib.hid hn
  clear hn
  by_cases h0 : askF f true = 0
  · have H66 := Lib.hid (open_yes F f true HN.out W0 HF.out h0)
    have HV := Lib.hid (askF_ok h0).1
    have HFO := Lib.hid (FOK.of HV.out)
    have HA := Lib.hid h0
    clear h0
    obtain ⟨L, Ap, cp, Aq, cq⟩ := F
    go_enter Try.func40, Try.ntmps40
    go_upto_region 1 with (fail)
    have e := HW0.out
    rw [e]
    clear e
    go_wp2_with (first
      | (go_at_call 66; refine (H66.out).mono ?_; rintro e w1 ⟨⟨b, rfl, hbb, hO⟩, hb1⟩; have B1 := Lib.hid hb1; have HO := Lib.hid hO; have HBB := Lib.hid hbb; clear hb1 hO hbb)
      | (go_at_call 77; refine (most_78 _ f HFO.out _ b allM w1 HO.out (fun m hm X hX => (all_any78 m X).mono fun e X' h => ⟨h.1, h.2 ▸ Below.refl _ _⟩)).mono ?_; rintro e w2 ⟨rfl, hb2⟩; have B2 := Lib.hid hb2; clear hb2))
    go_ret2
    exact ⟨NumEnd.mk (numRF_ok HA.out), hb0to HBW.out (hb0to B1.out B2.out)⟩
  · have H66 := Lib.hid (open_no F f true HN.out W0 HF.out h0)
    obtain ⟨er, her⟩ : ∃ x, x = askF f true := ⟨_, rfl⟩
    have HQ := Lib.hid her
    rw [← her] at H66 h0
    have hd : (er != 0) = true := bne_iff_ne.2 h0
    clear h0 her
    obtain ⟨L, Ap, cp, Aq, cq⟩ := F
    go_enter Try.func40, Try.ntmps40
    go_upto_region 1 with (fail)
    have e := HW0.out
    rw [e]
    clear e
    go_wp2_with (go_at_call 66; refine (H66.out).mono ?_; rintro e w1 ⟨rfl, hb1⟩; have B1 := Lib.hid hb1; clear hb1)
    go_ret2
    exact ⟨NumEnd.mk (numRF_no HQ.out (bne_iff_ne.1 hd)), hb0to HBW.out B1.out⟩
set_option maxRecDepth 100000 in
set_option maxHeartbeats 4000000 in
theorem Winners_any (F : FL) (f : Fair) (hn : FN f) (w : World) (hF : FairAt w w.heap.size F f) : Calls Try.prog 42 #[F.enc f] w fun e w' => ListEnd (winRet f) w.heap.size w' e ∧ Below w.heap.size w w' := by
  have hbw := al_below w (.cells #[.slice F.L.Ak f.h.ks.length F.L.ck, .int .i64 f.h.fl, .slice F.L.Ap f.h.ps.length F.L.cp, .slice F.L.Ab f.h.bs.length F.L.cb, .slice F.Ap f.pk.length F.cp, .int .i64 f.day, .int .i64 f.nb, .slice F.Aq f.q.length F.cq] 29)
  have HB := Lib.hid (FBox.new w F f)
  obtain ⟨c0, c1, c2, c3, c4, c5, c6, c7⟩ := (FBox.new w F f).cells
  obtain ⟨W0, hW0⟩ : ∃ W0, w.alloc (.cells #[.slice F.L.Ak f.h.ks.length F.L.ck, .int .i64 f.h.fl, .slice F.L.Ap f.h.ps.length F.L.cp, .slice F.L.Ab f.h.bs.length F.L.cb, .slice F.Ap f.pk.length F.cp, .int .i64 f.day, .int .i64 f.nb, .slice F.Aq f.q.length F.cq] 29) = W0 := ⟨_, rfl⟩
  rw [hW0] at hbw HB c0 c1 c2 c3 c4 c5 c6 c7
  have HBW := Lib.hid hbw
  have HW0 := Lib.hid hW0
  have HF := Lib.hid (hF.below hbw)
  clear hbw hW0 hF
  have HN := Lib.hid hn
  clear hn
  by_cases h0 : askF f true = 0
  · have H66 := Lib.hid (open_yes F f true HN.out W0 HF.out h0)
    have HV := Lib.hid (askF_ok h0).1
    have HFO := Lib.hid (FOK.of HV.out)
    have HA := Lib.hid h0
    clear h0
    obtain ⟨L, Ap, cp, Aq, cq⟩ := F
    go_enter Try.func42, Try.ntmps42
    go_upto_region 1 with (fail)
    have e := HW0.out
    rw [e]
    clear e
    go_wp2_with (first
      | (go_at_call 66; refine (H66.out).mono ?_; rintro e w1 ⟨⟨b, rfl, hbb, hO⟩, hb1⟩; have B1 := Lib.hid hb1; have HO := Lib.hid hO; have HBB := Lib.hid hbb; clear hb1 hO hbb)
      | (go_at_call 80; refine (winners_any _ f HFO.out _ b w1 HO.out).mono ?_; rintro e w2 ⟨rfl, hb2⟩; have B2 := Lib.hid hb2; clear hb2)
      | (go_at_call 69; refine (list_any (winS f.q (rdF f)) (Nat.lt_of_lt_of_le (win_of_sets HFO.out.ql HFO.out.pos).1 (pow_eight HFO.out.ql)) w2).mono ?_; rintro e w3 ⟨⟨v3, rfl, hv3⟩, hb3⟩; have B3 := Lib.hid hb3; have HV3 := Lib.hid hv3; clear hb3 hv3))
    go_ret2
    have hv := HV3.out
    rw [bits_eight HFO.out.ql (win_of_sets HFO.out.ql HFO.out.pos).1] at hv
    have hall := hb0to HBW.out (hb0to B1.out (hb0to B2.out B3.out))
    exact ⟨ListEnd.mk (listRF_ok HA.out) (hv.mono (hb0to HBW.out (hb0to B1.out B2.out)).size), hall⟩
  · have H66 := Lib.hid (open_no F f true HN.out W0 HF.out h0)
    obtain ⟨er, her⟩ : ∃ x, x = askF f true := ⟨_, rfl⟩
    have HQ := Lib.hid her
    rw [← her] at H66 h0
    have hd : (er != 0) = true := bne_iff_ne.2 h0
    clear h0 her
    obtain ⟨L, Ap, cp, Aq, cq⟩ := F
    go_enter Try.func42, Try.ntmps42
    go_upto_region 1 with (fail)
    have e := HW0.out
    rw [e]
    clear e
    go_wp2_with (go_at_call 66; refine (H66.out).mono ?_; rintro e w1 ⟨rfl, hb1⟩; have B1 := Lib.hid hb1; clear hb1)
    go_ret2
    exact ⟨ListEnd.mk (listRF_no HQ.out (bne_iff_ne.1 hd)) (ints_nil _ _), hb0to HBW.out B1.out⟩
set_option maxRecDepth 100000 in
set_option maxHeartbeats 4000000 in
theorem Ready_any (F : FL) (f : Fair) (hn : FN f) (w : World) (hF : FairAt w w.heap.size F f) : Calls Try.prog 29 #[F.enc f] w fun e w' => ListEnd (readyRet f) w.heap.size w' e ∧ Below w.heap.size w w' := by
  have hbw := al_below w (.cells #[.slice F.L.Ak f.h.ks.length F.L.ck, .int .i64 f.h.fl, .slice F.L.Ap f.h.ps.length F.L.cp, .slice F.L.Ab f.h.bs.length F.L.cb, .slice F.Ap f.pk.length F.cp, .int .i64 f.day, .int .i64 f.nb, .slice F.Aq f.q.length F.cq] 29)
  have HB := Lib.hid (FBox.new w F f)
  obtain ⟨c0, c1, c2, c3, c4, c5, c6, c7⟩ := (FBox.new w F f).cells
  obtain ⟨W0, hW0⟩ : ∃ W0, w.alloc (.cells #[.slice F.L.Ak f.h.ks.length F.L.ck, .int .i64 f.h.fl, .slice F.L.Ap f.h.ps.length F.L.cp, .slice F.L.Ab f.h.bs.length F.L.cb, .slice F.Ap f.pk.length F.cp, .int .i64 f.day, .int .i64 f.nb, .slice F.Aq f.q.length F.cq] 29) = W0 := ⟨_, rfl⟩
  rw [hW0] at hbw HB c0 c1 c2 c3 c4 c5 c6 c7
  have HBW := Lib.hid hbw
  have HW0 := Lib.hid hW0
  have HF := Lib.hid (hF.below hbw)
  clear hbw hW0 hF
  have HN := Lib.hid hn
  clear hn
  by_cases h0 : askF f true = 0
  · have H66 := Lib.hid (open_yes F f true HN.out W0 HF.out h0)
    have HV := Lib.hid (askF_ok h0).1
    have HFO := Lib.hid (FOK.of HV.out)
    have HA := Lib.hid h0
    clear h0
    obtain ⟨L, Ap, cp, Aq, cq⟩ := F
    go_enter Try.func29, Try.ntmps29
    go_upto_region 1 with (fail)
    have e := HW0.out
    rw [e]
    clear e
    go_wp2_with (first
      | (go_at_call 66; refine (H66.out).mono ?_; rintro e w1 ⟨⟨b, rfl, hbb, hO⟩, hb1⟩; have B1 := Lib.hid hb1; obtain ⟨Al, cl, u, hOB, -, hU⟩ := hO.ex; obtain ⟨_, _, _, _, _, _, _, _, _, g9⟩ := hOB.cells; have H69 := Lib.hid (fun W => by have := list_any u (by have := hU.lt; omega) W; rw [ready_bits HFO.out.bl hU] at this; exact this); clear hb1 hO hbb hOB hU)
      | (go_at_call 69; refine (H69.out w1).mono ?_; rintro e w3 ⟨⟨v3, rfl, hv3⟩, hb3⟩; have B3 := Lib.hid hb3; have HV3 := Lib.hid hv3; clear hb3 hv3))
    go_ret2
    have hv := HV3.out
    exact ⟨ListEnd.mk (listRF_ok HA.out) (hv.mono (hb0to HBW.out B1.out).size), hb0to HBW.out (hb0to B1.out B3.out)⟩
  · have H66 := Lib.hid (open_no F f true HN.out W0 HF.out h0)
    obtain ⟨er, her⟩ : ∃ x, x = askF f true := ⟨_, rfl⟩
    have HQ := Lib.hid her
    rw [← her] at H66 h0
    have hd : (er != 0) = true := bne_iff_ne.2 h0
    clear h0 her
    obtain ⟨L, Ap, cp, Aq, cq⟩ := F
    go_enter Try.func29, Try.ntmps29
    go_upto_region 1 with (fail)
    have e := HW0.out
    rw [e]
    clear e
    go_wp2_with (go_at_call 66; refine (H66.out).mono ?_; rintro e w1 ⟨rfl, hb1⟩; have B1 := Lib.hid hb1; clear hb1)
    go_ret2
    exact ⟨ListEnd.mk (listRF_no HQ.out (bne_iff_ne.1 hd)) (ints_nil _ _), hb0to HBW.out B1.out⟩

end Go.Proofs.Ytmconopnplgcfaa
namespace Go.Proofs.Ytmconopnplgcfaa
open Go.RowKit

/-! Paid 32, Won 36, Pays 23, Need 37. -/
theorem ownL_le {q : List Bid} (hq : ∀ b ∈ q, 0 ≤ b.pay) (v : Int) (l : List Nat) : ownL q v l ≤ bringsL q l := by
  have h1 := own_others q v l
  have h2 : 0 ≤ othersL q v l := brings_nonneg hq _
  omega
theorem payV_le {q : List Bid} {rd : List Int} (hn : q.length ≤ 8) (hq : ∀ b ∈ q, 0 ≤ b.pay ∧ b.pay ≤ 99) (v : Int) : 0 ≤ payV q rd v ∧ payV q rd v ≤ 792 := by
  have h0 := fun b hb => (hq b hb).1
  have h1 := payV_bd (rd := rd) hn h0 v
  have h2 := ownL_le h0 v (winL q rd)
  have h3 := brings_le hq (winL q rd)
  have h4 := bits_len q.length (winS q rd)
  unfold winL at h2 h3 h1
  omega
theorem paidTo_le {q : List Bid} {rd : List Int} (hn : q.length ≤ 8) (hq : ∀ b ∈ q, 0 ≤ b.pay ∧ b.pay ≤ 99) : ∀ k : Nat, 0 ≤ paidTo q rd k ∧ paidTo q rd k ≤ 792 * (k : Int)
  | 0 => ⟨Int.le_refl _, Int.le_refl _⟩
  | k + 1 => by
    have h1 := paidTo_le (rd := rd) hn hq k
    have h2 := payV_le (rd := rd) hn hq (k : Int)
    rw [paidTo]
    omega
set_option maxRecDepth 100000 in
set_option maxHeartbeats 4000000 in
theorem Paid_any (F : FL) (f : Fair) (hn : FN f) (w : World) (hF : FairAt w w.heap.size F f) : Calls Try.prog 32 #[F.enc f] w fun e w' => NumEnd (paidRet f) e ∧ Below w.heap.size w w' := by
  have hbw := al_below w (.cells #[.slice F.L.Ak f.h.ks.length F.L.ck, .int .i64 f.h.fl, .slice F.L.Ap f.h.ps.length F.L.cp, .slice F.L.Ab f.h.bs.length F.L.cb, .slice F.Ap f.pk.length F.cp, .int .i64 f.day, .int .i64 f.nb, .slice F.Aq f.q.length F.cq] 29)
  have HB := Lib.hid (FBox.new w F f)
  obtain ⟨c0, c1, c2, c3, c4, c5, c6, c7⟩ := (FBox.new w F f).cells
  obtain ⟨W0, hW0⟩ : ∃ W0, w.alloc (.cells #[.slice F.L.Ak f.h.ks.length F.L.ck, .int .i64 f.h.fl, .slice F.L.Ap f.h.ps.length F.L.cp, .slice F.L.Ab f.h.bs.length F.L.cb, .slice F.Ap f.pk.length F.cp, .int .i64 f.day, .int .i64 f.nb, .slice F.Aq f.q.length F.cq] 29) = W0 := ⟨_, rfl⟩
  rw [hW0] at hbw HB c0 c1 c2 c3 c4 c5 c6 c7
  have HBW := Lib.hid hbw
  have HW0 := Lib.hid hW0
  have HF := Lib.hid (hF.below hbw)
  clear hbw hW0 hF
  have HN := Lib.hid hn
  clear hn
  by_cases h0 : askF f true = 0
  · have H66 := Lib.hid (open_yes F f true HN.out W0 HF.out h0)
    have HV := Lib.hid (askF_ok h0).1
    have HFO := Lib.hid (FOK.of HV.out)
    have HA := Lib.hid h0
    clear h0
    obtain ⟨nb, hnb⟩ := Int.eq_ofNat_of_zero_le HFO.out.n0
    have hnb4 : nb ≤ 4 := by have := HFO.out.n1; omega
    have HNB := Lib.hid hnb
    clear hnb
    obtain ⟨L, Ap, cp, Aq, cq⟩ := F
    go_enter Try.func32, Try.ntmps32
    go_upto_region 1 with (fail)
    have e := HW0.out
    rw [e]
    clear e
    go_wp2_with (first
      | (go_at_call 66; refine (H66.out).mono ?_; rintro e w1 ⟨⟨b, rfl, hbb, hO⟩, hb1⟩; have B1 := Lib.hid hb1; have HO := Lib.hid hO; have HBB := Lib.hid hbb; have r6 := (HB.out.of (hb1.block _ HB.out.lt)).cells.2.2.2.2.2.2.1; rw [HNB.out] at r6; clear hb1 hO hbb)
      | (fail))
    clear r6
    go_loopw [18, 6] (fun i s wr => ∃ (k : Nat) (x : Int), k ≤ nb ∧ i = .int .i64 k ∧ s = .int .i64 x ∧ 0 ≤ x ∧ x ≤ 792 * (k : Int) ∧ Hid (x = paidTo f.q (rdF f) k) ∧ Hid (Below w1.heap.size w1 wr)) (fun i _ _ => nb - (intOf i).toNat)
    case atStart => exact ⟨0, 0, Nat.zero_le _, rfl, rfl, by omega, by omega, Lib.hid rfl, Lib.hid (Below.refl _ _)⟩
    case round =>
      obtain ⟨k, x, hk, rfl, rfl, hx0, hx1, hx, hb⟩ := hrel
      by_cases hlt : k < nb
      · have hp := payV_le (rd := rdF f) HFO.out.ql HFO.out.pay (k : Int)
        have H68 := Lib.hid (pays_any _ f HFO.out _ b (k : Int) wr (HO.out.below hb.out))
        have HN := Lib.hid (show paidTo f.q (rdF f) (k + 1) = paidTo f.q (rdF f) k + payV f.q (rdF f) k from rfl)
        generalize payV f.q (rdF f) (k : Int) = p at hp H68 HN
        go_wp2_with (go_at_call 68; refine H68.out.mono ?_; rintro e w2 ⟨rfl, hb2⟩; have B2 := Lib.hid hb2; clear hb2)
        go_roundw
        case rel => exact ⟨k + 1, x + p, by omega, by go_num, rfl, by omega, by omega, Lib.hid (by rw [HN.out, hx.out]), Lib.hid (hb0to hb.out B2.out)⟩
        case measure => simp [intOf]; omega
      · obtain rfl : k = nb := by omega
        have HQ := Lib.hid (show paidRet f = (x, 0) by unfold paidRet; rw [numRF_ok HA.out, hx.out, HNB.out]; rfl)
        go_wp2_with (fail)
        go_ret2
        exact ⟨NumEnd.mk HQ.out, hb0to HBW.out (hb0to B1.out hb.out)⟩
  · have H66 := Lib.hid (open_no F f true HN.out W0 HF.out h0)
    obtain ⟨er, her⟩ : ∃ x, x = askF f true := ⟨_, rfl⟩
    have HQ := Lib.hid her
    rw [← her] at H66 h0
    have hd : (er != 0) = true := bne_iff_ne.2 h0
    clear h0 her
    obtain ⟨L, Ap, cp, Aq, cq⟩ := F
    go_enter Try.func32, Try.ntmps32
    go_upto_region 1 with (fail)
    have e := HW0.out
    rw [e]
    clear e
    go_wp2_with (go_at_call 66; refine (H66.out).mono ?_; rintro e w1 ⟨rfl, hb1⟩; have B1 := Lib.hid hb1; clear hb1)
    go_ret2
    exact ⟨NumEnd.mk (numRF_no HQ.out (bne_iff_ne.1 hd)), hb0to HBW.out B1.out⟩
set_option maxRecDepth 100000 in
set_option maxHeartbeats 4000000 in
theorem Won_any (F : FL) (f : Fair) (hn : FN f) (x : Int) (w : World) (hF : FairAt w w.heap.size F f) : Calls Try.prog 36 #[F.enc f, .int .i64 x] w fun e w' => NumEnd (wonRet f x) e ∧ Below w.heap.size w w' := by
  have hbw := al_below w (.cells #[.slice F.L.Ak f.h.ks.length F.L.ck, .int .i64 f.h.fl, .slice F.L.Ap f.h.ps.length F.L.cp, .slice F.L.Ab f.h.bs.length F.L.cb, .slice F.Ap f.pk.length F.cp, .int .i64 f.day, .int .i64 f.nb, .slice F.Aq f.q.length F.cq] 29)
  have HB := Lib.hid (FBox.new w F f)
  obtain ⟨c0, c1, c2, c3, c4, c5, c6, c7⟩ := (FBox.new w F f).cells
  obtain ⟨W0, hW0⟩ : ∃ W0, w.alloc (.cells #[.slice F.L.Ak f.h.ks.length F.L.ck, .int .i64 f.h.fl, .slice F.L.Ap f.h.ps.length F.L.cp, .slice F.L.Ab f.h.bs.length F.L.cb, .slice F.Ap f.pk.length F.cp, .int .i64 f.day, .int .i64 f.nb, .slice F.Aq f.q.length F.cq] 29) = W0 := ⟨_, rfl⟩
  rw [hW0] at hbw HB c0 c1 c2 c3 c4 c5 c6 c7
  have HBW := Lib.hid hbw
  have HW0 := Lib.hid hW0
  have HF := Lib.hid (hF.below hbw)
  clear hbw hW0 hF
  have HN := Lib.hid hn
  have hqn := hn.q
  obtain ⟨is, his⟩ : ∃ b, b = inR x 0 ((f.q.length : Int) - 1) := ⟨_, rfl⟩
  have H73 := Lib.hid (fun W => by have := isBid_any F f x hqn W; rw [← his] at this; exact this)
  have HIS := Lib.hid his
  clear hn
  by_cases h0 : askF f is = 0
  · have hi := (askF_ok h0).2
    have HV := Lib.hid (askF_ok h0).1
    have HFO := Lib.hid (FOK.of HV.out)
    have HA := Lib.hid h0
    have H66 := Lib.hid (fun W hW => open_yes F f is HN.out W hW h0)
    have HR := Lib.hid (inR_true.1 (his.symm.trans hi))
    clear h0 his
    subst hi
    obtain ⟨xn, rfl⟩ := Int.eq_ofNat_of_zero_le HR.out.1
    have hxn : xn < f.q.length := by have := HR.out.2; omega
    have HQ0 := Lib.hid (show wonRet f (xn : Int) = (wonN (withV f.q (rdF f) xn) (outV f.q (rdF f) xn), 0) by unfold wonRet isBid; rw [← HIS.out, numRF_ok HA.out, Int.toNat_natCast])
    have H74 := Lib.hid (fun b W hW => with_any F f HFO.out (rdF f) b xn hxn W hW)
    have H75 := Lib.hid (fun b W hW => out_any F f HFO.out (rdF f) b xn hxn W hW)
    generalize withV f.q (rdF f) xn = w1v at HQ0 H74
    generalize outV f.q (rdF f) xn = w0v at HQ0 H75
    obtain ⟨L, Ap, cp, Aq, cq⟩ := F
    go_enter Try.func36, Try.ntmps36
    go_upto_region 1 with (fail)
    have e := HW0.out
    rw [e]
    clear e
    go_region_held3 (fun w' => w'.cell? ⟨w.heap.size, 0, none⟩ = some (.slice L.Ak f.h.ks.length L.ck) ∧ w'.cell? ⟨w.heap.size, 1, none⟩ = some (.int .i64 f.h.fl) ∧ w'.cell? ⟨w.heap.size, 2, none⟩ = some (.slice L.Ap f.h.ps.length L.cp) ∧ w'.cell? ⟨w.heap.size, 3, none⟩ = some (.slice L.Ab f.h.bs.length L.cb) ∧ w'.cell? ⟨w.heap.size, 4, none⟩ = some (.slice Ap f.pk.length cp) ∧ w'.cell? ⟨w.heap.size, 5, none⟩ = some (.int .i64 f.day) ∧ w'.cell? ⟨w.heap.size, 6, none⟩ = some (.int .i64 f.nb) ∧ w'.cell? ⟨w.heap.size, 7, none⟩ = some (.slice Aq f.q.length cq)) (first | go_keep)
      (first
        | (go_at_call 73; refine (H73.out _).mono ?_; rintro e w1 ⟨rfl, hb1⟩; have hk1 : Below W0.heap.size W0 w1 := (by first | exact hb1 | exact hb0to (drew_below W0) hb1); have B1 := Lib.hid hk1; obtain ⟨r0, r1, r2, r3, r4, r5, r6, r7⟩ := (HB.out.of (hk1.block _ HB.out.lt)).cells; clear hb1 hk1)
        | (go_at_call 66; refine (H66.out w1 (HF.out.below B1.out)).mono ?_; rintro e w2 ⟨⟨b, rfl, hbb, hO⟩, hb2⟩; have B2 := Lib.hid (hb0to B1.out hb2); have HO := Lib.hid hO; have HBB := Lib.hid hbb; clear hO hbb; obtain ⟨r0, r1, r2, r3, r4, r5, r6, r7⟩ := (HB.out.of (B2.out.block _ HB.out.lt)).cells; clear hb2))
    all_goals
      have hc : (w0v < w1v ∧ wonN w1v w0v = 1) ∨ (¬ w0v < w1v ∧ w1v < w0v ∧ wonN w1v w0v = 2) ∨ (¬ w0v < w1v ∧ ¬ w1v < w0v ∧ wonN w1v w0v = 3) := by
        unfold wonN
        by_cases a : w0v < w1v
        · exact .inl ⟨a, if_pos a⟩
        · by_cases a2 : w1v < w0v
          · exact .inr (.inl ⟨a, a2, by rw [if_neg a, if_pos a2]⟩)
          · exact .inr (.inr ⟨a, a2, by rw [if_neg a, if_neg a2]⟩)
      rcases hc with ⟨a, q⟩ | ⟨a, a2, q⟩ | ⟨a, a2, q⟩
      all_goals
        rw [q] at HQ0
        clear q
        go_wp2_with (first
          | (go_at_call 74; refine (H74.out b _ HO.out).mono ?_; rintro e w3 ⟨rfl, hb3⟩; have B3 := Lib.hid hb3; clear hb3)
          | (go_at_call 75; refine (H75.out b _ (HO.out.below B3.out)).mono ?_; rintro e w4 ⟨rfl, hb4⟩; have B4 := Lib.hid hb4; clear hb4))
        go_ret2
        exact ⟨NumEnd.mk HQ0.out, hb0to HBW.out (hb0to B2.out (hb0to B3.out B4.out))⟩
  · have H66 := Lib.hid (fun W hW => open_no F f is HN.out W hW h0)
    obtain ⟨er, her⟩ : ∃ x, x = askF f is := ⟨_, rfl⟩
    have HQ := Lib.hid her
    rw [← her] at H66 h0
    have hd : (er != 0) = true := bne_iff_ne.2 h0
    clear h0 her his
    obtain ⟨L, Ap, cp, Aq, cq⟩ := F
    go_enter Try.func36, Try.ntmps36
    go_upto_region 1 with (fail)
    have e := HW0.out
    rw [e]
    clear e
    go_region_held3 (fun w' => w'.cell? ⟨w.heap.size, 0, none⟩ = some (.slice L.Ak f.h.ks.length L.ck) ∧ w'.cell? ⟨w.heap.size, 1, none⟩ = some (.int .i64 f.h.fl) ∧ w'.cell? ⟨w.heap.size, 2, none⟩ = some (.slice L.Ap f.h.ps.length L.cp) ∧ w'.cell? ⟨w.heap.size, 3, none⟩ = some (.slice L.Ab f.h.bs.length L.cb) ∧ w'.cell? ⟨w.heap.size, 4, none⟩ = some (.slice Ap f.pk.length cp) ∧ w'.cell? ⟨w.heap.size, 5, none⟩ = some (.int .i64 f.day) ∧ w'.cell? ⟨w.heap.size, 6, none⟩ = some (.int .i64 f.nb) ∧ w'.cell? ⟨w.heap.size, 7, none⟩ = some (.slice Aq f.q.length cq)) (first | go_keep)
      (first
        | (go_at_call 73; refine (H73.out _).mono ?_; rintro e w1 ⟨rfl, hb1⟩; have hk1 : Below W0.heap.size W0 w1 := (by first | exact hb1 | exact hb0to (drew_below W0) hb1); have B1 := Lib.hid hk1; obtain ⟨r0, r1, r2, r3, r4, r5, r6, r7⟩ := (HB.out.of (hk1.block _ HB.out.lt)).cells; clear hb1 hk1)
        | (go_at_call 66; refine (H66.out w1 (HF.out.below B1.out)).mono ?_; rintro e w2 ⟨rfl, hb2⟩; have B2 := Lib.hid (hb0to B1.out hb2); obtain ⟨r0, r1, r2, r3, r4, r5, r6, r7⟩ := (HB.out.of (B2.out.block _ HB.out.lt)).cells; clear hb2))
    all_goals
      go_wp2_with (fail)
      go_ret2
      exact ⟨NumEnd.mk (by unfold wonRet isBid; rw [← HIS.out]; exact numRF_no HQ.out (bne_iff_ne.1 hd)), hb0to HBW.out B2.out⟩
theorem pay_eq {f : Fair} {x : Int} {is : Bool} (his : is = inR x 0 (IntKind.i64.wrap (f.nb - 1))) (v : Int) : numRF f (isBuyer f x) v = numRF f is v := by
  cases hv : validF f
  · unfold numRF; rw [askF_bad _ hv, askF_bad _ hv]
  · have h := FOK.of hv
    have h0 := h.n0
    have h1 := h.n1
    rw [his, IntWalk.i64_in _ (by omega)]
    rfl
set_option maxRecDepth 100000 in
set_option maxHeartbeats 4000000 in
theorem Pays_any (F : FL) (f : Fair) (hn : FN f) (x : Int) (w : World) (hF : FairAt w w.heap.size F f) : Calls Try.prog 23 #[F.enc f, .int .i64 x] w fun e w' => NumEnd (payRet f x) e ∧ Below w.heap.size w w' := by
  have hbw := al_below w (.cells #[.slice F.L.Ak f.h.ks.length F.L.ck, .int .i64 f.h.fl, .slice F.L.Ap f.h.ps.length F.L.cp, .slice F.L.Ab f.h.bs.length F.L.cb, .slice F.Ap f.pk.length F.cp, .int .i64 f.day, .int .i64 f.nb, .slice F.Aq f.q.length F.cq] 29)
  have HB := Lib.hid (FBox.new w F f)
  obtain ⟨c0, c1, c2, c3, c4, c5, c6, c7⟩ := (FBox.new w F f).cells
  obtain ⟨W0, hW0⟩ : ∃ W0, w.alloc (.cells #[.slice F.L.Ak f.h.ks.length F.L.ck, .int .i64 f.h.fl, .slice F.L.Ap f.h.ps.length F.L.cp, .slice F.L.Ab f.h.bs.length F.L.cb, .slice F.Ap f.pk.length F.cp, .int .i64 f.day, .int .i64 f.nb, .slice F.Aq f.q.length F.cq] 29) = W0 := ⟨_, rfl⟩
  rw [hW0] at hbw HB c0 c1 c2 c3 c4 c5 c6 c7
  have HBW := Lib.hid hbw
  have HW0 := Lib.hid hW0
  have HF := Lib.hid (hF.below hbw)
  clear hbw hW0 hF
  have HN := Lib.hid hn
  have hqn := hn.q
  obtain ⟨is, his⟩ : ∃ b, b = inR x 0 (IntKind.i64.wrap (f.nb - 1)) := ⟨_, rfl⟩
  have H67 := Lib.hid (fun W => by have := swithin_any x 0 (IntKind.i64.wrap (f.nb - 1)) W; rw [← his] at this; exact this)
  have HIS := Lib.hid his
  clear hn
  by_cases h0 : askF f is = 0
  · have hi := (askF_ok h0).2
    have HV := Lib.hid (askF_ok h0).1
    have HFO := Lib.hid (FOK.of HV.out)
    have HA := Lib.hid h0
    have H66 := Lib.hid (fun W hW => open_yes F f is HN.out W hW h0)
    have HR := Lib.hid (inR_true.1 (his.symm.trans hi))
    clear h0 his
    subst hi
    have HQ0 := Lib.hid (show payRet f x = (payV f.q (rdF f) x, 0) by unfold payRet; rw [pay_eq HIS.out, numRF_ok HA.out])
    have H68 := Lib.hid (fun b W hW => pays_any F f HFO.out (rdF f) b x W hW)
    obtain ⟨L, Ap, cp, Aq, cq⟩ := F
    go_enter Try.func23, Try.ntmps23
    go_upto_region 1 with (fail)
    have e := HW0.out
    rw [e]
    clear e
    go_region_held3 (fun w' => w'.cell? ⟨w.heap.size, 0, none⟩ = some (.slice L.Ak f.h.ks.length L.ck) ∧ w'.cell? ⟨w.heap.size, 1, none⟩ = some (.int .i64 f.h.fl) ∧ w'.cell? ⟨w.heap.size, 2, none⟩ = some (.slice L.Ap f.h.ps.length L.cp) ∧ w'.cell? ⟨w.heap.size, 3, none⟩ = some (.slice L.Ab f.h.bs.length L.cb) ∧ w'.cell? ⟨w.heap.size, 4, none⟩ = some (.slice Ap f.pk.length cp) ∧ w'.cell? ⟨w.heap.size, 5, none⟩ = some (.int .i64 f.day) ∧ w'.cell? ⟨w.heap.size, 6, none⟩ = some (.int .i64 f.nb) ∧ w'.cell? ⟨w.heap.size, 7, none⟩ = some (.slice Aq f.q.length cq)) (first | go_keep)
      (first
        | (go_at_call 67; refine (H67.out _).mono ?_; rintro e w1 ⟨rfl, rfl⟩)
        | (go_at_call 66; refine (H66.out _ (HF.out.below (by first | exact Below.refl _ _ | exact drew_below W0))).mono ?_; rintro e w2 ⟨⟨b, rfl, hbb, hO⟩, hb2⟩; have B2 := Lib.hid (by first | exact hb2 | exact hb0to (drew_below W0) hb2 : Below W0.heap.size W0 w2); have HO := Lib.hid hO; have HBB := Lib.hid hbb; clear hO hbb; obtain ⟨r0, r1, r2, r3, r4, r5, r6, r7⟩ := (HB.out.of (B2.out.block _ HB.out.lt)).cells; clear hb2))
    all_goals
      go_wp2_with (go_at_call 68; refine (H68.out b _ HO.out).mono ?_; rintro e w3 ⟨rfl, hb3⟩; have B3 := Lib.hid hb3; clear hb3)
      go_ret2
      exact ⟨NumEnd.mk HQ0.out, hb0to HBW.out (hb0to B2.out B3.out)⟩
  · have H66 := Lib.hid (fun W hW => open_no F f is HN.out W hW h0)
    obtain ⟨er, her⟩ : ∃ x, x = askF f is := ⟨_, rfl⟩
    have HQ := Lib.hid her
    rw [← her] at H66 h0
    have hd : (er != 0) = true := bne_iff_ne.2 h0
    clear h0 her his
    obtain ⟨L, Ap, cp, Aq, cq⟩ := F
    go_enter Try.func23, Try.ntmps23
    go_upto_region 1 with (fail)
    have e := HW0.out
    rw [e]
    clear e
    go_region_held3 (fun w' => w'.cell? ⟨w.heap.size, 0, none⟩ = some (.slice L.Ak f.h.ks.length L.ck) ∧ w'.cell? ⟨w.heap.size, 1, none⟩ = some (.int .i64 f.h.fl) ∧ w'.cell? ⟨w.heap.size, 2, none⟩ = some (.slice L.Ap f.h.ps.length L.cp) ∧ w'.cell? ⟨w.heap.size, 3, none⟩ = some (.slice L.Ab f.h.bs.length L.cb) ∧ w'.cell? ⟨w.heap.size, 4, none⟩ = some (.slice Ap f.pk.length cp) ∧ w'.cell? ⟨w.heap.size, 5, none⟩ = some (.int .i64 f.day) ∧ w'.cell? ⟨w.heap.size, 6, none⟩ = some (.int .i64 f.nb) ∧ w'.cell? ⟨w.heap.size, 7, none⟩ = some (.slice Aq f.q.length cq)) (first | go_keep)
      (first
        | (go_at_call 67; refine (H67.out _).mono ?_; rintro e w1 ⟨rfl, rfl⟩)
        | (go_at_call 66; refine (H66.out _ (HF.out.below (by first | exact Below.refl _ _ | exact drew_below W0))).mono ?_; rintro e w2 ⟨rfl, hb2⟩; have B2 := Lib.hid (by first | exact hb2 | exact hb0to (drew_below W0) hb2 : Below W0.heap.size W0 w2); obtain ⟨r0, r1, r2, r3, r4, r5, r6, r7⟩ := (HB.out.of (B2.out.block _ HB.out.lt)).cells; clear hb2))
    all_goals
      go_wp2_with (fail)
      go_ret2
      exact ⟨NumEnd.mk (by unfold payRet; rw [pay_eq HIS.out]; exact numRF_no HQ.out (bne_iff_ne.1 hd)), hb0to HBW.out B2.out⟩
set_option maxRecDepth 100000 in
set_option maxHeartbeats 4000000 in
theorem Need_any (F : FL) (f : Fair) (hn : FN f) (x : Int) (w : World) (hF : FairAt w w.heap.size F f) : Calls Try.prog 37 #[F.enc f, .int .i64 x] w fun e w' => NumEnd (needRet f x) e ∧ Below w.heap.size w w' := by
  have hbw := al_below w (.cells #[.slice F.L.Ak f.h.ks.length F.L.ck, .int .i64 f.h.fl, .slice F.L.Ap f.h.ps.length F.L.cp, .slice F.L.Ab f.h.bs.length F.L.cb, .slice F.Ap f.pk.length F.cp, .int .i64 f.day, .int .i64 f.nb, .slice F.Aq f.q.length F.cq] 29)
  have HB := Lib.hid (FBox.new w F f)
  obtain ⟨c0, c1, c2, c3, c4, c5, c6, c7⟩ := (FBox.new w F f).cells
  obtain ⟨W0, hW0⟩ : ∃ W0, w.alloc (.cells #[.slice F.L.Ak f.h.ks.length F.L.ck, .int .i64 f.h.fl, .slice F.L.Ap f.h.ps.length F.L.cp, .slice F.L.Ab f.h.bs.length F.L.cb, .slice F.Ap f.pk.length F.cp, .int .i64 f.day, .int .i64 f.nb, .slice F.Aq f.q.length F.cq] 29) = W0 := ⟨_, rfl⟩
  rw [hW0] at hbw HB c0 c1 c2 c3 c4 c5 c6 c7
  have HBW := Lib.hid hbw
  have HW0 := Lib.hid hW0
  have HF := Lib.hid (hF.below hbw)
  clear hbw hW0 hF
  have HN := Lib.hid hn
  have hqn := hn.q
  obtain ⟨is, his⟩ : ∃ b, b = inR x 0 ((f.q.length : Int) - 1) := ⟨_, rfl⟩
  have H73 := Lib.hid (fun W => by have := isBid_any F f x hqn W; rw [← his] at this; exact this)
  have HIS := Lib.hid his
  clear hn
  by_cases h0 : askF f is = 0
  · have hi := (askF_ok h0).2
    have HV := Lib.hid (askF_ok h0).1
    have HFO := Lib.hid (FOK.of HV.out)
    have HA := Lib.hid h0
    have H66 := Lib.hid (fun W hW => open_yes F f is HN.out W hW h0)
    have HR := Lib.hid (inR_true.1 (his.symm.trans hi))
    clear h0 his
    subst hi
    obtain ⟨xn, rfl⟩ := Int.eq_ofNat_of_zero_le HR.out.1
    have hxn : xn < f.q.length := by have := HR.out.2; omega
    obtain ⟨y, hy⟩ : ∃ y, f.q[xn]? = some y := ⟨_, List.getElem?_eq_getElem hxn⟩
    have HQ0 := Lib.hid (show needRet f (xn : Int) = if 99 < needN (withV f.q (rdF f) xn) (outV f.q (rdF f) xn) y.pay then (0, 3) else (needN (withV f.q (rdF f) xn) (outV f.q (rdF f) xn) y.pay, 0) by unfold needRet isBid; rw [← HIS.out, if_pos HA.out, Int.toNat_natCast]; unfold needV; rw [payAt_some hy])
    have H74 := Lib.hid (fun b W hW => with_any F f HFO.out (rdF f) b xn hxn W hW)
    have H75 := Lib.hid (fun b W hW => out_any F f HFO.out (rdF f) b xn hxn W hW)
    have hw1 := mostTo_bd HFO.out.ql HFO.out.pay (withM xn) (setsL f.q (rdF f))
    have hw0 := mostTo_bd HFO.out.ql HFO.out.pay (outM xn) (setsL f.q (rdF f))
    have hyp := HFO.out.pay y (List.mem_of_getElem? hy)
    change -1 ≤ withV f.q (rdF f) xn ∧ withV f.q (rdF f) xn ≤ 792 at hw1
    change -1 ≤ outV f.q (rdF f) xn ∧ outV f.q (rdF f) xn ≤ 792 at hw0
    generalize withV f.q (rdF f) xn = w1v at HQ0 H74 hw1
    generalize outV f.q (rdF f) xn = w0v at HQ0 H75 hw0
    obtain ⟨bk, ok, A', c', hAq, hbk, d1, d2, d3, hA', hI⟩ := HF.out.q.at_ hy
    have D3 := Lib.hid d3
    have HAQ := Lib.hid hAq
    clear hy d1 d2 d3 hA' hI hAq
    obtain ⟨L, Ap, cp, Aq, cq⟩ := F
    go_enter Try.func37, Try.ntmps37
    go_upto_region 1 with (fail)
    have e := HW0.out
    rw [e]
    clear e
    go_region_held3 (fun w' => w'.cell? ⟨w.heap.size, 0, none⟩ = some (.slice L.Ak f.h.ks.length L.ck) ∧ w'.cell? ⟨w.heap.size, 1, none⟩ = some (.int .i64 f.h.fl) ∧ w'.cell? ⟨w.heap.size, 2, none⟩ = some (.slice L.Ap f.h.ps.length L.cp) ∧ w'.cell? ⟨w.heap.size, 3, none⟩ = some (.slice L.Ab f.h.bs.length L.cb) ∧ w'.cell? ⟨w.heap.size, 4, none⟩ = some (.slice Ap f.pk.length cp) ∧ w'.cell? ⟨w.heap.size, 5, none⟩ = some (.int .i64 f.day) ∧ w'.cell? ⟨w.heap.size, 6, none⟩ = some (.int .i64 f.nb) ∧ w'.cell? ⟨w.heap.size, 7, none⟩ = some (.slice Aq f.q.length cq)) (first | go_keep)
      (first
        | (go_at_call 73; refine (H73.out _).mono ?_; rintro e w1 ⟨rfl, hb1⟩; have hk1 : Below W0.heap.size W0 w1 := (by first | exact hb1 | exact hb0to (drew_below W0) hb1); have B1 := Lib.hid hk1; obtain ⟨r0, r1, r2, r3, r4, r5, r6, r7⟩ := (HB.out.of (hk1.block _ HB.out.lt)).cells; clear hb1 hk1)
        | (go_at_call 66; refine (H66.out w1 (HF.out.below B1.out)).mono ?_; rintro e w2 ⟨⟨b, rfl, hbb, hO⟩, hb2⟩; have B2 := Lib.hid (hb0to B1.out hb2); have HO := Lib.hid hO; have HBB := Lib.hid hbb; clear hO hbb; obtain ⟨r0, r1, r2, r3, r4, r5, r6, r7⟩ := (HB.out.of (B2.out.block _ HB.out.lt)).cells; clear hb2))
    all_goals
      have HB2 := Lib.hid (HB.out.of (B2.out.block _ HB.out.lt))
      by_cases hneg : w1v < 0
      · rw [show needN w1v w0v y.pay = 100 from if_pos hneg, if_pos (by omega)] at HQ0
        go_wp2_with (go_at_call 74; refine (H74.out b _ HO.out).mono ?_; rintro e w3 ⟨rfl, hb3⟩; have B3 := Lib.hid hb3; clear hb3)
        go_ret2
        exact ⟨NumEnd.mk HQ0.out, hb0to HBW.out (hb0to B2.out B3.out)⟩
      · rw [show needN w1v w0v y.pay = max 0 (w0v - (w1v - y.pay)) from if_neg hneg] at HQ0
        have hcs : (w0v - (w1v - y.pay) ≤ 0 ∧ max 0 (w0v - (w1v - y.pay)) = 0) ∨ (0 < w0v - (w1v - y.pay) ∧ w0v - (w1v - y.pay) ≤ 99 ∧ max 0 (w0v - (w1v - y.pay)) = w0v - (w1v - y.pay)) ∨ (0 < w0v - (w1v - y.pay) ∧ 99 < w0v - (w1v - y.pay) ∧ max 0 (w0v - (w1v - y.pay)) = w0v - (w1v - y.pay)) := by omega
        have hs1 : IntKind.i64.wrap (w1v - y.pay) = w1v - y.pay := IntWalk.i64_in _ (by omega)
        have hs2 : IntKind.i64.wrap (w0v - (w1v - y.pay)) = w0v - (w1v - y.pay) := IntWalk.i64_in _ (by omega)
        generalize hdd : w0v - (w1v - y.pay) = d at hcs hs2 HQ0
        generalize hee : w1v - y.pay = ee at hs1 hdd
        have HS1 := Lib.hid hs1
        have HS2 := Lib.hid hs2
        have HE := Lib.hid hee
        have HD := Lib.hid hdd
        clear hs1 hs2 hee hdd
        rcases hcs with ⟨q1, q2⟩ | ⟨q1, q3, q2⟩ | ⟨q1, q3, q2⟩
        all_goals
          rw [q2] at HQ0
          have HQ1 := Lib.hid (HQ0.out.trans (by first | exact if_neg (by omega) | exact if_pos (by omega)))
          clear q2 HQ0
          go_wp2_with (go_at_call 74; refine (H74.out b _ HO.out).mono ?_; rintro e w3 ⟨rfl, hb3⟩; have B3 := Lib.hid (hb0to B2.out hb3); have HO3 := Lib.hid (HO.out.below hb3); clear hb3)
          clear r0 r1 r2 r3 r4 r5 r6 r7
          have r7 := (HB.out.of (B3.out.block _ HB.out.lt)).cells.2.2.2.2.2.2.2
          rw [show Aq = _ from HAQ.out] at r7
          have d3 := below_cell B3.out D3.out
          have y7 := extB_cell r7
          have yd := extB_cell d3
          have H75x := Lib.hid (fun z => H75.out b (extB w3 z) (HO3.out.below (extB_below w3 z)))
          have hs1 := HS1.out
          have hs2 := HS2.out
          have he := HE.out
          have hd := HD.out
          refine wp_region_ext (by kernel_rfl) (by kernel_rfl) ?_
          repeat (go_big_quiet_step ((go_at_call 75; exact ext_call (H75x.out _))))
          refine wpQuiet_nil ?_
          rintro _ ⟨t1, rfl⟩
          clear y7 yd hs1 hs2 he hd r7 d3
          have HB6 := Lib.hid (extB_below w3 t1)
          obtain ⟨W6, hW6⟩ : ∃ W6, extB w3 t1 = W6 := ⟨_, rfl⟩
          rw [hW6] at HB6 ⊢
          clear hW6
          go_wp2_with (fail)
          go_ret2
          exact ⟨NumEnd.mk HQ1.out, hb0to HBW.out (hb0to B3.out HB6.out)⟩
  · have H66 := Lib.hid (fun W hW => open_no F f is HN.out W hW h0)
    obtain ⟨er, her⟩ : ∃ x, x = askF f is := ⟨_, rfl⟩
    have HQ := Lib.hid her
    rw [← her] at H66 h0
    have hd : (er != 0) = true := bne_iff_ne.2 h0
    clear h0 her his
    obtain ⟨L, Ap, cp, Aq, cq⟩ := F
    go_enter Try.func37, Try.ntmps37
    go_upto_region 1 with (fail)
    have e := HW0.out
    rw [e]
    clear e
    go_region_held3 (fun w' => w'.cell? ⟨w.heap.size, 0, none⟩ = some (.slice L.Ak f.h.ks.length L.ck) ∧ w'.cell? ⟨w.heap.size, 1, none⟩ = some (.int .i64 f.h.fl) ∧ w'.cell? ⟨w.heap.size, 2, none⟩ = some (.slice L.Ap f.h.ps.length L.cp) ∧ w'.cell? ⟨w.heap.size, 3, none⟩ = some (.slice L.Ab f.h.bs.length L.cb) ∧ w'.cell? ⟨w.heap.size, 4, none⟩ = some (.slice Ap f.pk.length cp) ∧ w'.cell? ⟨w.heap.size, 5, none⟩ = some (.int .i64 f.day) ∧ w'.cell? ⟨w.heap.size, 6, none⟩ = some (.int .i64 f.nb) ∧ w'.cell? ⟨w.heap.size, 7, none⟩ = some (.slice Aq f.q.length cq)) (first | go_keep)
      (first
        | (go_at_call 73; refine (H73.out _).mono ?_; rintro e w1 ⟨rfl, hb1⟩; have hk1 : Below W0.heap.size W0 w1 := (by first | exact hb1 | exact hb0to (drew_below W0) hb1); have B1 := Lib.hid hk1; obtain ⟨r0, r1, r2, r3, r4, r5, r6, r7⟩ := (HB.out.of (hk1.block _ HB.out.lt)).cells; clear hb1 hk1)
        | (go_at_call 66; refine (H66.out w1 (HF.out.below B1.out)).mono ?_; rintro e w2 ⟨rfl, hb2⟩; have B2 := Lib.hid (hb0to B1.out hb2); obtain ⟨r0, r1, r2, r3, r4, r5, r6, r7⟩ := (HB.out.of (B2.out.block _ HB.out.lt)).cells; clear hb2))
    all_goals
      go_wp2_with (fail)
      go_ret2
      exact ⟨NumEnd.mk (by unfold needRet isBid; rw [← HIS.out, if_neg (by rw [← HQ.out]; exact bne_iff_ne.1 hd), HQ.out]), hb0to HBW.out B2.out⟩

end Go.Proofs.Ytmconopnplgcfaa
