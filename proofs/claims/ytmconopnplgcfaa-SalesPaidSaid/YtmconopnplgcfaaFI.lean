import Derived.Test.YtmconopnplgcfaaFH
namespace Go.Proofs.Ytmconopnplgcfaa
open Go.RowKit

/-! The program's functions: Most 40, Winners 42, Ready 29, Paid 32, Won 36, Pays 23, Need 37. -/
abbrev rdF (f : Fair) : List Int := readyL f.h f.pk f.day
def numRF (f : Fair) (is : Bool) (v : Int) : Int × Int := if askF f is = 0 then (v, 0) else (0, askF f is)
theorem numRF_ok {f : Fair} {is : Bool} {v : Int} (h : askF f is = 0) : numRF f is v = (v, 0) := if_pos h
theorem numRF_no {f : Fair} {is : Bool} {v er : Int} (h : er = askF f is) (h0 : er ≠ 0) : numRF f is v = (0, er) := by
  unfold numRF; rw [if_neg (by rw [← h]; exact h0), h]
def NumEnd (r : Int × Int) (e : Ending) : Prop := e = .returned (.tuple #[.int .i64 r.1, .int .i64 r.2])
theorem NumEnd.mk {r : Int × Int} {x y : Int} (h : r = (x, y)) : NumEnd r (.returned (.tuple #[.int .i64 x, .int .i64 y])) := by unfold NumEnd; rw [h]
def listRF (f : Fair) (is : Bool) (l : List Int) : List Int × Int := if askF f is = 0 then (l, 0) else ([], askF f is)
theorem listRF_ok {f : Fair} {is : Bool} {v : List Int} (h : askF f is = 0) : listRF f is v = (v, 0) := if_pos h
theorem listRF_no {f : Fair} {is : Bool} {v : List Int} {er : Int} (h : er = askF f is) (h0 : er ≠ 0) : listRF f is v = ([], er) := by
  unfold listRF; rw [if_neg (by rw [← h]; exact h0), h]
def ListEnd (r : List Int × Int) (B : Nat) (w' : World) (e : Ending) : Prop := ∃ v, e = .returned (.tuple #[v, .int .i64 r.2]) ∧ Ints w' B v r.1
theorem ListEnd.mk {r : List Int × Int} {B : Nat} {w' : World} {v : Value} {l : List Int} {y : Int} (h : r = (l, y)) (hv : Ints w' B v l) : ListEnd r B w' (.returned (.tuple #[v, .int .i64 y])) := by subst h; exact ⟨v, rfl, hv⟩
/-- An ascending list is what its bits are. -/
theorem sorted_ext : ∀ {l m : List Int}, l.Pairwise (· < ·) → m.Pairwise (· < ·) → (∀ x, x ∈ l ↔ x ∈ m) → l = m
  | [], [], _, _, _ => rfl
  | [], y :: m, _, _, h => by have := (h y).2 (by simp); simp at this
  | x :: l, [], _, _, h => by have := (h x).1 (by simp); simp at this
  | x :: l, y :: m, hl, hm, h => by
    have hl' := List.pairwise_cons.1 hl
    have hm' := List.pairwise_cons.1 hm
    have e : x = y := by
      have h1 := (h x).1 (by simp)
      have h2 := (h y).2 (by simp)
      rcases List.mem_cons.1 h1 with h1 | h1
      · exact h1
      · rcases List.mem_cons.1 h2 with h2 | h2
        · exact h2.symm
        · have := hm'.1 x h1; have := hl'.1 y h2; omega
    subst e
    congr 1
    refine sorted_ext hl'.2 hm'.2 fun z => ?_
    have hz := h z
    rw [List.mem_cons, List.mem_cons] at hz
    constructor
    · intro h1
      rcases hz.1 (.inr h1) with e | e
      · subst e; have := hl'.1 z h1; omega
      · exact e
    · intro h1
      rcases hz.2 (.inr h1) with e | e
      · subst e; have := hm'.1 z h1; omega
      · exact e
theorem intsN_up {l : List Nat} (h : l.Pairwise (· < ·)) : (intsN l).Pairwise (· < ·) := by
  unfold intsN
  rw [List.pairwise_map]
  exact h.imp fun h => by omega
theorem readyL_up (h : House) (pk : List Int) (day : Int) : (readyL h pk day).Pairwise (· < ·) := by
  unfold readyL
  refine List.Pairwise.filter _ ?_
  rw [List.pairwise_map]
  exact List.pairwise_lt_range.imp fun h => by omega
theorem ready_bits {h : House} {pk : List Int} {day : Int} {u : Nat} (hb : h.bs.length ≤ 4) (hu : MaskOf (readyL h pk day) u) : intsN (bitsL 8 u) = readyL h pk day := by
  refine sorted_ext (intsN_up (bits_up 8 u)) (readyL_up h pk day) fun x => ?_
  have h8 : ∀ i, 4 ≤ i → u.testBit i = false := fun i hi => Nat.testBit_lt_two_pow (Nat.lt_of_lt_of_le hu.lt (by
    have : 2 ^ 4 ≤ 2 ^ i := Nat.pow_le_pow_right (by omega) hi
    omega))
  unfold intsN
  rw [List.mem_map]
  constructor
  · rintro ⟨i, hi, rfl⟩
    obtain ⟨_, h2⟩ := mem_bits.1 hi
    by_cases h4 : i < 4
    · exact (hu.bit i h4).1 h2
    · rw [h8 i (by omega)] at h2; cases h2
  · intro hx
    have hr := readyL_in x hx
    refine ⟨x.toNat, mem_bits.2 ⟨by omega, ?_⟩, by omega⟩
    refine (hu.bit x.toNat (by omega)).2 ?_
    rw [show ((x.toNat : Nat) : Int) = x by omega]; exact hx
def mostRet (f : Fair) : Int × Int := numRF f true (mostV f.q (rdF f))
def winRet (f : Fair) : List Int × Int := listRF f true (intsN (winL f.q (rdF f)))
def readyRet (f : Fair) : List Int × Int := listRF f true (rdF f)
def paidRet (f : Fair) : Int × Int := numRF f true (paidTo f.q (rdF f) f.nb.toNat)
def isBid (f : Fair) (x : Int) : Bool := inR x 0 ((f.q.length : Int) - 1)
def isBuyer (f : Fair) (x : Int) : Bool := inR x 0 (f.nb - 1)
def wonRet (f : Fair) (x : Int) : Int × Int := numRF f (isBid f x) (wonN (withV f.q (rdF f) x.toNat) (outV f.q (rdF f) x.toNat))
def payRet (f : Fair) (x : Int) : Int × Int := numRF f (isBuyer f x) (payV f.q (rdF f) x)
def needV (f : Fair) (i : Nat) : Int := needN (withV f.q (rdF f) i) (outV f.q (rdF f) i) (payAt f.q i)
def needRet (f : Fair) (x : Int) : Int × Int := if askF f (isBid f x) = 0 then (if 99 < needV f x.toNat then (0, 3) else (needV f x.toNat, 0)) else (0, askF f (isBid f x))
set_option maxRecDepth 100000 in
set_option maxHeartbeats 4000000 in
theorem Most_any (F : FL) (f : Fair) (hn : FN f) (w : World) (hF : FairAt w w.heap.size F f) : Calls Try.prog 40 #[F.enc f] w fun e w' => NumEnd (mostRet f) e ∧ Below w.heap.size w w' := by
  have hbw := al_below w (.cells #[.slice F.L.Ak f.h.ks.length F.L.ck, .int .i64 f.h.fl, .slice F.L.Ap f.h.ps.length F.L.cp, .slice F.L.Ab f.h.bs.length F.L.cb, .slice F.Ap f.pk.length F.cp, .int .i64 f.day, .int .i64 f.nb, .slice F.Aq f.q.length F.cq] 29)
  have HB := Lib.hid (FBox.new w F f)
  obtain ⟨c0, c1, c2, c3, c4, c5, c6, c7⟩ := (FBox.new w F f).cells
  obtain ⟨W0, hW0⟩ : ∃ W0, w.alloc (.cells #[.slice F.L.Ak f.h.ks.length F.L.ck, .int .i64 f.h.fl, .slice F.L.Ap f.h.ps.length F.L.cp, .slice F.L.Ab f.h.bs.length F.L.cb, .slice F.Ap f.pk.length F.cp, .int .i64 f.day, .int .i64 f.nb, .slice F.Aq f.q.length F.cq] 29) = W0 := ⟨_, rfl⟩
  rw [hW0] at hbw HB c0 c1 c2 c3 c4 c5 c6 c7
  have HBW := Lib.hid hbw
  have HW0 := Lib.hid hW0
  have HF := Lib.hid (hF.below hbw)
  clear hbw hW0 hF
  have HN := Lib.hid hn
  clear hn
  by_cases h0 : askF f true = 0
  · have H66 := Lib.hid (open_yes F f true HN.out W0 HF.out h0)
    have HV := Lib.hid (askF_ok h0).1
    have HFO := Lib.hid (FOK.of HV.out)
    have HA := Lib.hid h0
    clear h0
    obtain ⟨L, Ap, cp, Aq, cq⟩ := F
    go_enter Try.func40, Try.ntmps40
    go_upto_region 1 with (fail)
    have e := HW0.out
    rw [e]
    clear e
    go_wp2_with (first
      | (go_at_call 66; refine (H66.out).mono ?_; rintro e w1 ⟨⟨b, rfl, hbb, hO⟩, hb1⟩; have B1 := Lib.hid hb1; have HO := Lib.hid hO; have HBB := Lib.hid hbb; clear hb1 hO hbb)
      | (go_at_call 77; refine (most_78 _ f HFO.out _ b allM w1 HO.out (fun m hm X hX => (all_any78 m X).mono fun e X' h => ⟨h.1, h.2 ▸ Below.refl _ _⟩)).mono ?_; rintro e w2 ⟨rfl, hb2⟩; have B2 := Lib.hid hb2; clear hb2))
    go_ret2
    exact ⟨NumEnd.mk (numRF_ok HA.out), hb0to HBW.out (hb0to B1.out B2.out)⟩
  · have H66 := Lib.hid (open_no F f true HN.out W0 HF.out h0)
    obtain ⟨er, her⟩ : ∃ x, x = askF f true := ⟨_, rfl⟩
    have HQ := Lib.hid her
    rw [← her] at H66 h0
    have hd : (er != 0) = true := bne_iff_ne.2 h0
    clear h0 her
    obtain ⟨L, Ap, cp, Aq, cq⟩ := F
    go_enter Try.func40, Try.ntmps40
    go_upto_region 1 with (fail)
    have e := HW0.out
    rw [e]
    clear e
    go_wp2_with (go_at_call 66; refine (H66.out).mono ?_; rintro e w1 ⟨rfl, hb1⟩; have B1 := Lib.hid hb1; clear hb1)
    go_ret2
    exact ⟨NumEnd.mk (numRF_no HQ.out (bne_iff_ne.1 hd)), hb0to HBW.out B1.out⟩
set_option maxRecDepth 100000 in
set_option maxHeartbeats 4000000 in
theorem Winners_any (F : FL) (f : Fair) (hn : FN f) (w : World) (hF : FairAt w w.heap.size F f) : Calls Try.prog 42 #[F.enc f] w fun e w' => ListEnd (winRet f) w.heap.size w' e ∧ Below w.heap.size w w' := by
  have hbw := al_below w (.cells #[.slice F.L.Ak f.h.ks.length F.L.ck, .int .i64 f.h.fl, .slice F.L.Ap f.h.ps.length F.L.cp, .slice F.L.Ab f.h.bs.length F.L.cb, .slice F.Ap f.pk.length F.cp, .int .i64 f.day, .int .i64 f.nb, .slice F.Aq f.q.length F.cq] 29)
  have HB := Lib.hid (FBox.new w F f)
  obtain ⟨c0, c1, c2, c3, c4, c5, c6, c7⟩ := (FBox.new w F f).cells
  obtain ⟨W0, hW0⟩ : ∃ W0, w.alloc (.cells #[.slice F.L.Ak f.h.ks.length F.L.ck, .int .i64 f.h.fl, .slice F.L.Ap f.h.ps.length F.L.cp, .slice F.L.Ab f.h.bs.length F.L.cb, .slice F.Ap f.pk.length F.cp, .int .i64 f.day, .int .i64 f.nb, .slice F.Aq f.q.length F.cq] 29) = W0 := ⟨_, rfl⟩
  rw [hW0] at hbw HB c0 c1 c2 c3 c4 c5 c6 c7
  have HBW := Lib.hid hbw
  have HW0 := Lib.hid hW0
  have HF := Lib.hid (hF.below hbw)
  clear hbw hW0 hF
  have HN := Lib.hid hn
  clear hn
  by_cases h0 : askF f true = 0
  · have H66 := Lib.hid (open_yes F f true HN.out W0 HF.out h0)
    have HV := Lib.hid (askF_ok h0).1
    have HFO := Lib.hid (FOK.of HV.out)
    have HA := Lib.hid h0
    clear h0
    obtain ⟨L, Ap, cp, Aq, cq⟩ := F
    go_enter Try.func42, Try.ntmps42
    go_upto_region 1 with (fail)
    have e := HW0.out
    rw [e]
    clear e
    go_wp2_with (first
      | (go_at_call 66; refine (H66.out).mono ?_; rintro e w1 ⟨⟨b, rfl, hbb, hO⟩, hb1⟩; have B1 := Lib.hid hb1; have HO := Lib.hid hO; have HBB := Lib.hid hbb; clear hb1 hO hbb)
      | (go_at_call 80; refine (winners_any _ f HFO.out _ b w1 HO.out).mono ?_; rintro e w2 ⟨rfl, hb2⟩; have B2 := Lib.hid hb2; clear hb2)
      | (go_at_call 69; refine (list_any (winS f.q (rdF f)) (Nat.lt_of_lt_of_le (win_of_sets HFO.out.ql HFO.out.pos).1 (pow_eight HFO.out.ql)) w2).mono ?_; rintro e w3 ⟨⟨v3, rfl, hv3⟩, hb3⟩; have B3 := Lib.hid hb3; have HV3 := Lib.hid hv3; clear hb3 hv3))
    go_ret2
    have hv := HV3.out
    rw [bits_eight HFO.out.ql (win_of_sets HFO.out.ql HFO.out.pos).1] at hv
    have hall := hb0to HBW.out (hb0to B1.out (hb0to B2.out B3.out))
    exact ⟨ListEnd.mk (listRF_ok HA.out) (hv.mono (hb0to HBW.out (hb0to B1.out B2.out)).size), hall⟩
  · have H66 := Lib.hid (open_no F f true HN.out W0 HF.out h0)
    obtain ⟨er, her⟩ : ∃ x, x = askF f true := ⟨_, rfl⟩
    have HQ := Lib.hid her
    rw [← her] at H66 h0
    have hd : (er != 0) = true := bne_iff_ne.2 h0
    clear h0 her
    obtain ⟨L, Ap, cp, Aq, cq⟩ := F
    go_enter Try.func42, Try.ntmps42
    go_upto_region 1 with (fail)
    have e := HW0.out
    rw [e]
    clear e
    go_wp2_with (go_at_call 66; refine (H66.out).mono ?_; rintro e w1 ⟨rfl, hb1⟩; have B1 := Lib.hid hb1; clear hb1)
    go_ret2
    exact ⟨ListEnd.mk (listRF_no HQ.out (bne_iff_ne.1 hd)) (ints_nil _ _), hb0to HBW.out B1.out⟩
set_option maxRecDepth 100000 in
set_option maxHeartbeats 4000000 in
theorem Ready_any (F : FL) (f : Fair) (hn : FN f) (w : World) (hF : FairAt w w.heap.size F f) : Calls Try.prog 29 #[F.enc f] w fun e w' => ListEnd (readyRet f) w.heap.size w' e ∧ Below w.heap.size w w' := by
  have hbw := al_below w (.cells #[.slice F.L.Ak f.h.ks.length F.L.ck, .int .i64 f.h.fl, .slice F.L.Ap f.h.ps.length F.L.cp, .slice F.L.Ab f.h.bs.length F.L.cb, .slice F.Ap f.pk.length F.cp, .int .i64 f.day, .int .i64 f.nb, .slice F.Aq f.q.length F.cq] 29)
  have HB := Lib.hid (FBox.new w F f)
  obtain ⟨c0, c1, c2, c3, c4, c5, c6, c7⟩ := (FBox.new w F f).cells
  obtain ⟨W0, hW0⟩ : ∃ W0, w.alloc (.cells #[.slice F.L.Ak f.h.ks.length F.L.ck, .int .i64 f.h.fl, .slice F.L.Ap f.h.ps.length F.L.cp, .slice F.L.Ab f.h.bs.length F.L.cb, .slice F.Ap f.pk.length F.cp, .int .i64 f.day, .int .i64 f.nb, .slice F.Aq f.q.length F.cq] 29) = W0 := ⟨_, rfl⟩
  rw [hW0] at hbw HB c0 c1 c2 c3 c4 c5 c6 c7
  have HBW := Lib.hid hbw
  have HW0 := Lib.hid hW0
  have HF := Lib.hid (hF.below hbw)
  clear hbw hW0 hF
  have HN := Lib.hid hn
  clear hn
  by_cases h0 : askF f true = 0
  · have H66 := Lib.hid (open_yes F f true HN.out W0 HF.out h0)
    have HV := Lib.hid (askF_ok h0).1
    have HFO := Lib.hid (FOK.of HV.out)
    have HA := Lib.hid h0
    clear h0
    obtain ⟨L, Ap, cp, Aq, cq⟩ := F
    go_enter Try.func29, Try.ntmps29
    go_upto_region 1 with (fail)
    have e := HW0.out
    rw [e]
    clear e
    go_wp2_with (first
      | (go_at_call 66; refine (H66.out).mono ?_; rintro e w1 ⟨⟨b, rfl, hbb, hO⟩, hb1⟩; have B1 := Lib.hid hb1; obtain ⟨Al, cl, u, hOB, -, hU⟩ := hO.ex; obtain ⟨_, _, _, _, _, _, _, _, _, g9⟩ := hOB.cells; have H69 := Lib.hid (fun W => by have := list_any u (by have := hU.lt; omega) W; rw [ready_bits HFO.out.bl hU] at this; exact this); clear hb1 hO hbb hOB hU)
      | (go_at_call 69; refine (H69.out w1).mono ?_; rintro e w3 ⟨⟨v3, rfl, hv3⟩, hb3⟩; have B3 := Lib.hid hb3; have HV3 := Lib.hid hv3; clear hb3 hv3))
    go_ret2
    have hv := HV3.out
    exact ⟨ListEnd.mk (listRF_ok HA.out) (hv.mono (hb0to HBW.out B1.out).size), hb0to HBW.out (hb0to B1.out B3.out)⟩
  · have H66 := Lib.hid (open_no F f true HN.out W0 HF.out h0)
    obtain ⟨er, her⟩ : ∃ x, x = askF f true := ⟨_, rfl⟩
    have HQ := Lib.hid her
    rw [← her] at H66 h0
    have hd : (er != 0) = true := bne_iff_ne.2 h0
    clear h0 her
    obtain ⟨L, Ap, cp, Aq, cq⟩ := F
    go_enter Try.func29, Try.ntmps29
    go_upto_region 1 with (fail)
    have e := HW0.out
    rw [e]
    clear e
    go_wp2_with (go_at_call 66; refine (H66.out).mono ?_; rintro e w1 ⟨rfl, hb1⟩; have B1 := Lib.hid hb1; clear hb1)
    go_ret2
    exact ⟨ListEnd.mk (listRF_no HQ.out (bne_iff_ne.1 hd)) (ints_nil _ _), hb0to HBW.out B1.out⟩

end Go.Proofs.Ytmconopnplgcfaa
