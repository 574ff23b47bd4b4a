import Derived.Test.YtmconopnplgcfaaLD
namespace Go.Proofs.Ytmconopnplgcfaa
open Go.RowKit

/-! SalesPaid. -/
/-- What a law keeps: its fair and the fair's box. -/
structure FIn (W : World) (b : Nat) (F : FL) (f : Fair) : Prop where
  H : FairAt W W.heap.size F f
  x : FBox W b F f
theorem FIn.next {W W' : World} {b : Nat} {F : FL} {f : Fair} (h : FIn W b F f) (hb : Below W.heap.size W W') : FIn W' b F f := ⟨h.H.below hb, h.x.of (hb.block _ h.x.lt)⟩
theorem own_won {q : List Bid} {rd : List Int} {l : List Nat} (h : SaleL q rd l) (v : Int) : (wonI q l v = -1 ∧ ownL q v l = 0) ∨ ∃ i b, i ∈ l ∧ q[i]? = some b ∧ wonI q l v = (i : Int) ∧ ownL q v l = b.pay := by
  unfold wonI
  cases e : l.find? (ownP q v) with
  | none => exact .inl ⟨rfl, own_none fun i hi ho => by have := List.find?_eq_none.1 e i hi; exact this ho⟩
  | some i =>
    have hi := List.mem_of_find?_eq_some e
    have ho := List.find?_some e
    obtain ⟨b, hb, _⟩ := h.rdy i hi
    exact .inr ⟨i, b, hi, hb, rfl, by rw [own_at h hi ho, payAt_some hb]⟩
theorem own_le {q : List Bid} {rd : List Int} {l : List Nat} (h : SaleL q rd l) (v : Int) (hq : ∀ b ∈ q, 0 ≤ b.pay) : ownL q v l ≤ bringsL q l := by
  have h1 := own_others q v l
  have h2 : 0 ≤ othersL q v l := brings_nonneg hq _
  omega
theorem paid_le {f : Fair} (h : FOK f) : 0 ≤ paidTo f.q (rdF f) f.nb.toNat ∧ paidTo f.q (rdF f) f.nb.toNat ≤ mW f := by
  have h1 := paidTo_bd h.ql h.pos' (rd := rdF f) f.nb.toNat
  have h2 : ownTo f.q (wL f) f.nb.toNat = bringsL f.q (wL f) := ownTo_all fun i hi => by
    obtain ⟨b, hb, _⟩ := (wL_win h).sale.rdy i hi
    have := h.who b (List.mem_of_getElem? hb)
    have := h.n0
    exact ⟨b, hb, by omega, by omega⟩
  have h3 : mW f = bringsL f.q (wL f) := mostV_win h.ql h.pos'
  have h4 : ownTo f.q (winL f.q (rdF f)) f.nb.toNat = ownTo f.q (wL f) f.nb.toNat := rfl
  omega
theorem pay_bound {f : Fair} (h : FOK f) (v : Int) : 0 ≤ payV f.q (rdF f) v ∧ payV f.q (rdF f) v ≤ ownL f.q v (wL f) := payV_bd h.ql h.pos' v
set_option maxRecDepth 100000 in
set_option maxHeartbeats 4000000 in
theorem paid_law (F : FL) (f : Fair) (w : World) (hF : FairAt w w.heap.size F f) : Calls Try.prog 6 #[F.enc f] w fun e w' => e = .returned (.bool true) ∧ Below w.heap.size w w' := by
  have hbw := al_below w (.cells #[.slice F.L.Ak f.h.ks.length F.L.ck, .int .i64 f.h.fl, .slice F.L.Ap f.h.ps.length F.L.cp, .slice F.L.Ab f.h.bs.length F.L.cb, .slice F.Ap f.pk.length F.cp, .int .i64 f.day, .int .i64 f.nb, .slice F.Aq f.q.length F.cq] 29)
  have HB := Lib.hid (FBox.new w F f)
  obtain ⟨c0, c1, c2, c3, c4, c5, c6, c7⟩ := (FBox.new w F f).cells
  obtain ⟨W0, hW0⟩ : ∃ W0, w.alloc (.cells #[.slice F.L.Ak f.h.ks.length F.L.ck, .int .i64 f.h.fl, .slice F.L.Ap f.h.ps.length F.L.cp, .slice F.L.Ab f.h.bs.length F.L.cb, .slice F.Ap f.pk.length F.cp, .int .i64 f.day, .int .i64 f.nb, .slice F.Aq f.q.length F.cq] 29) = W0 := ⟨_, rfl⟩
  rw [hW0] at hbw HB c0 c1 c2 c3 c4 c5 c6 c7
  have HBW := Lib.hid hbw
  have HW0 := Lib.hid hW0
  have HF := Lib.hid (hF.below hbw)
  clear hbw hW0 hF
  have M0 := Lib.hid (FIn.mk HF.out HB.out)
  have H16 := Lib.hid (readyF_any F f W0 HF.out)
  cases hr : readyB9 f
  · rw [hr] at H16
    obtain ⟨L, Ap, cp, Aq, cq⟩ := F
    go_enter Try.func6, Try.ntmps6
    go_upto_region 1 with (fail)
    have e := HW0.out
    rw [e]
    clear e
    go_wp2_with (first
      | (go_at_call 16; refine H16.out.mono ?_; rintro e w1 ⟨rfl, hb1⟩; have B1 := Lib.hid hb1; clear hb1)
      | (go_at_call 19; refine (works_any _).mono ?_; rintro e w9 ⟨rfl, hb9⟩; have B9 := Lib.hid (hb0to B1.out hb9); clear hb9))
    go_ret
    exact ⟨rfl, hb0to HBW.out B9.out⟩
  · rw [hr] at H16
    obtain ⟨hh, hv⟩ := readyB9_iff.1 hr
    have hf := FOK.of hv
    have hn := hugeF_fn hh
    have hbd := mW_bd hf
    have hpd := paid_le hf
    have hnb0 := hf.n0
    have hnb1 := hf.n1
    obtain ⟨nb, hnb⟩ := Int.eq_ofNat_of_zero_le hnb0
    have H25 := Lib.hid (fun W hW => mostF_any F f hn hv W hW)
    have H20 := Lib.hid (fun W hW => winnersF_any F f hn hv W hW)
    have H32 := Lib.hid (fun W hW => Paid_any F f hn W hW)
    have H23 := Lib.hid (fun (k : Nat) (hk : k < nb) W hW => Pays_any F f hn k W hW)
    have H21 := Lib.hid (fun A c (k : Nat) W hW hI => wonF_any F f hn (wL f) (fun i hi => (wL_win hf).sale.lt hi) (by have := wL_len hf; have := hf.ql; omega) A c k W hW hI)
    have e32 : paidRet f = (paidTo f.q (rdF f) nb, 0) := by
      have : f.nb.toNat = nb := by omega
      unfold paidRet; rw [this]; exact numRF_ok (ask_valid hv)
    have e23 : ∀ k : Nat, k < nb → payRet f k = (payV f.q (rdF f) k, 0) := fun k hk => numRF_ok (by
      have : isBuyer f k = true := inR_true.2 (by omega)
      rw [this]; exact ask_valid hv)
    rw [e32] at H32
    have htn : f.nb.toNat = nb := by omega
    rw [htn] at hpd
    have HO := Lib.hid (fun v => own_won (wL_win hf).sale v)
    have HOB := Lib.hid (fun v => own_le (wL_win hf).sale v hf.pos')
    have HM := Lib.hid (show mW f = bringsL f.q (wL f) from mostV_win hf.ql hf.pos')
    have HP := Lib.hid (fun v => pay_bound hf v)
    have HPT := Lib.hid (fun k => paidTo_bd hf.ql hf.pos' (rd := rdF f) k)
    have HPA := Lib.hid hf.pay
    have HPL := Lib.hid (fun k => paidTo_le hf.ql hf.pay (rd := rdF f) k)
    have HPV := Lib.hid (fun v => payV_le hf.ql hf.pay (rd := rdF f) v)
    have HE := Lib.hid e23
    obtain ⟨n, hnn⟩ : ∃ n, mW f = n := ⟨_, rfl⟩
    rw [hnn] at H25 hbd hpd HM
    have HQ8 := hf.ql
    obtain ⟨p, hpp⟩ : ∃ p, paidTo f.q (rdF f) nb = p := ⟨_, rfl⟩
    rw [hpp] at H32 hpd
    have HPP := Lib.hid hpp
    have d1 : decide (n < 0) = false := decide_eq_false (by omega)
    have d2 : decide (p < 0) = false := decide_eq_false (by omega)
    have d3 : decide (n < p) = false := decide_eq_false (by omega)
    have hnb4 : nb ≤ 4 := by omega
    have HNB := Lib.hid hnb
    clear hr hh hv hf hn e32 e23 hnn hpp htn hnb
    obtain ⟨L, Ap, cp, Aq, cq⟩ := F
    go_enter Try.func6, Try.ntmps6
    go_upto_region 1 with (fail)
    have e := HW0.out
    rw [e]
    clear e
    go_wp2_with (first
      | (go_at_call 16; refine H16.out.mono ?_; rintro e w1 ⟨rfl, hb⟩; have B1 := Lib.hid hb; have M1 := Lib.hid (M0.out.next hb); obtain ⟨r0, r1, r2, r3, r4, r5, r6, r7⟩ := M1.out.x.cells; clear hb)
      | (go_at_call 25; refine (H25.out w1 M1.out.H).mono ?_; rintro e w2 ⟨rfl, hb⟩; have B2 := Lib.hid (hb0to B1.out hb); have M2 := Lib.hid (M1.out.next hb); obtain ⟨r0, r1, r2, r3, r4, r5, r6, r7⟩ := M2.out.x.cells; clear hb)
      | (go_at_call 20; refine (H20.out w2 M2.out.H).mono ?_; rintro e w3 ⟨⟨A3, k3, rfl, hI⟩, hb⟩; have B3 := Lib.hid (hb0to B2.out hb); have M3 := Lib.hid (M2.out.next hb); have I3 := Lib.hid hI; obtain ⟨r0, r1, r2, r3, r4, r5, r6, r7⟩ := M3.out.x.cells; clear hb hI)
      | (go_at_call 32; refine (H32.out w3 M3.out.H).mono ?_; rintro e w4 ⟨rfl, hb⟩; have B4 := Lib.hid (hb0to B3.out hb); have M4 := Lib.hid (M3.out.next hb); have I4 := Lib.hid (ints_later I3.out hb); clear hb r0 r1 r2 r3 r4 r5 r6 r7))
    go_loopw [8, 6] (fun i x wr => ∃ k : Nat, k ≤ nb ∧ i = .int .i64 k ∧ (∃ y : Int, x = .int .i64 y ∧ Hid (y + paidTo f.q (rdF f) k = p)) ∧ Hid (FIn wr w.heap.size ⟨L, Ap, cp, Aq, cq⟩ f) ∧ Hid (IntsAt wr wr.heap.size A3 (intsN (wL f))) ∧ Hid (Below W0.heap.size W0 wr)) (fun i _ _ => nb - (intOf i).toNat)
    case atStart => exact ⟨0, Nat.zero_le _, rfl, ⟨p, rfl, Lib.hid (by simp [paidTo])⟩, M4, I4, B4⟩
    case round =>
      obtain ⟨k, hk, rfl, ⟨y, rfl, hy⟩, M, I, B⟩ := hrel
      obtain ⟨r0, r1, r2, r3, r4, r5, r6, r7⟩ := M.out.x.cells
      by_cases hlt : k < nb
      · have hkd : decide ((k : Int) < f.nb) = true := decide_eq_true (by have := HNB.out; omega)
        have X23 := Lib.hid (H23.out k hlt)
        rw [HE.out k hlt] at X23
        have X21 := Lib.hid (fun A c W hW hI => H21.out A c k W hW hI)
        have hpv := HP.out k
        have hpvb := HPV.out (k : Int)
        have hptb := HPL.out k
        have hown := HO.out (k : Int)
        have hyv := hy.out
        have HPK : Hid (paidTo f.q (rdF f) (k + 1) = paidTo f.q (rdF f) k + payV f.q (rdF f) k) := Lib.hid rfl
        generalize payV f.q (rdF f) (k : Int) = pv at X23 hpv hpvb HPK
        have hpv0 : decide (pv < 0) = false := decide_eq_false (by omega)
        have hyb : -4000 ≤ y ∧ y ≤ 1000 := by omega
        have HN1 := Lib.hid (show (y - pv) + paidTo f.q (rdF f) (k + 1) = p by rw [HPK.out]; omega)
        rcases hown with ⟨hw, h0⟩ | ⟨i, bd, hi, hbq, hw, h0⟩
        · rw [hw] at X21
          have d4 : decide ((0 : Int) < pv) = false := decide_eq_false (by omega)
          clear hw h0 hpv hptb hyv
          go_wp2_with (first
            | (go_at_call 23; refine (X23.out wr M.out.H).mono ?_; rintro e w5 ⟨rfl, hb⟩; have B5 := Lib.hid (hb0to B.out hb); have M5 := Lib.hid (M.out.next hb); have I5 := Lib.hid (ints_later I.out hb); obtain ⟨r0, r1, r2, r3, r4, r5, r6, r7⟩ := M5.out.x.cells; clear hb)
            | (go_at_call 21; refine (X21.out A3 k3 w5 M5.out.H I5.out).mono ?_; rintro e w6 ⟨rfl, hb⟩; have B6 := Lib.hid (hb0to B5.out hb); have M6 := Lib.hid (M5.out.next hb); have I6 := Lib.hid (ints_later I5.out hb); obtain ⟨r0, r1, r2, r3, r4, r5, r6, r7⟩ := M6.out.x.cells; clear hb))
          go_roundw
          case rel => exact ⟨k + 1, by omega, by go_num, ⟨y - pv, by go_num, HN1⟩, M6, I6, B6⟩
          case measure => simp [intOf]; omega
        · rw [hw] at X21
          have d4 : decide (bd.pay < pv) = false := decide_eq_false (by omega)
          have d5 : decide ((0 : Int) ≤ (i : Int)) = true := decide_eq_true (by omega)
          have hil : i < f.q.length := (List.getElem?_eq_some_iff.1 hbq).1
          obtain ⟨bk, ok, A', c', eA, hbk, x1, x2, x3, hA', hXI⟩ := HF.out.q.at_ hbq
          have EA := Lib.hid eA
          have X3 := Lib.hid x3
          clear hw h0 hpv hptb hyv hbq hi eA x1 x2 x3 hA' hXI
          go_wp2_with (first
            | (go_at_call 23; refine (X23.out wr M.out.H).mono ?_; rintro e w5 ⟨rfl, hb⟩; have B5 := Lib.hid (hb0to B.out hb); have M5 := Lib.hid (M.out.next hb); have I5 := Lib.hid (ints_later I.out hb); obtain ⟨r0, r1, r2, r3, r4, r5, r6, r7⟩ := M5.out.x.cells; clear hb)
            | (go_at_call 21; refine (X21.out A3 k3 w5 M5.out.H I5.out).mono ?_; rintro e w6 ⟨rfl, hb⟩; have B6 := Lib.hid (hb0to B5.out hb); have M6 := Lib.hid (M5.out.next hb); have I6 := Lib.hid (ints_later I5.out hb); obtain ⟨r0, r1, r2, r3, r4, r5, r6, r7⟩ := M6.out.x.cells; rw [show Aq = _ from EA.out] at r7; have e3 := below_cell B6.out X3.out; clear hb))
          go_roundw
          case rel => exact ⟨k + 1, by omega, by go_num, ⟨y - pv, by go_num, HN1⟩, M6, I6, B6⟩
          case measure => simp [intOf]; omega
      · obtain rfl : k = nb := by omega
        have hkd : decide ((k : Int) < f.nb) = false := decide_eq_false (by have := HNB.out; omega)
        have hy0 : y = 0 := by have h1 := hy.out; have h2 := HPP.out; omega
        subst hy0
        go_wp2_with (go_at_call 19; refine (works_any _).mono ?_; rintro e w9 ⟨rfl, hb9⟩; have B9 := Lib.hid (hb0to B.out hb9); clear hb9)
        go_ret
        exact ⟨rfl, hb0to HBW.out B9.out⟩

end Go.Proofs.Ytmconopnplgcfaa
