import Derived.Test.YtmconopnplgcfaaRX
namespace Go.Proofs.Ytmconopnplgcfaa
open Go.RowKit

/-! SalesWithout. -/
theorem highTo_le {q : List Bid} (hq : ∀ b ∈ q, 0 ≤ b.pay ∧ b.pay ≤ 99) (v : Int) : ∀ k, 0 ≤ highTo q v k ∧ highTo q v k ≤ 99
  | 0 => by unfold highTo; simp
  | k + 1 => by
    have ih := highTo_le hq v k
    rw [highTo_succ]
    split
    · rename_i h
      have hp : 0 ≤ payAt q k ∧ payAt q k ≤ 99 := by
        unfold payAt
        cases e : q[k]? with
        | none => simp
        | some b => exact hq b (List.mem_of_getElem? e)
      omega
    · exact ih
set_option maxRecDepth 100000 in
set_option maxHeartbeats 4000000 in
theorem without_law (F : FL) (f : Fair) (a : Int) (w : World) (hok : FLOK F f) (hF : FairAt w w.heap.size F f) : Calls Try.prog 4 #[F.enc f, .int .i64 a] w fun e w' => e = .returned (.bool true) ∧ Below w.heap.size w w' := by
  have hbw := al_below w (.cells #[.slice F.L.Ak f.h.ks.length F.L.ck, .int .i64 f.h.fl, .slice F.L.Ap f.h.ps.length F.L.cp, .slice F.L.Ab f.h.bs.length F.L.cb, .slice F.Ap f.pk.length F.cp, .int .i64 f.day, .int .i64 f.nb, .slice F.Aq f.q.length F.cq] 29)
  have HB := Lib.hid (FBox.new w F f)
  obtain ⟨c0, c1, c2, c3, c4, c5, c6, c7⟩ := (FBox.new w F f).cells
  obtain ⟨W0, hW0⟩ : ∃ W0, w.alloc (.cells #[.slice F.L.Ak f.h.ks.length F.L.ck, .int .i64 f.h.fl, .slice F.L.Ap f.h.ps.length F.L.cp, .slice F.L.Ab f.h.bs.length F.L.cb, .slice F.Ap f.pk.length F.cp, .int .i64 f.day, .int .i64 f.nb, .slice F.Aq f.q.length F.cq] 29) = W0 := ⟨_, rfl⟩
  rw [hW0] at hbw HB c0 c1 c2 c3 c4 c5 c6 c7
  have HBW := Lib.hid hbw
  have HW0 := Lib.hid hW0
  have HF := Lib.hid (hF.below hbw)
  clear hbw hW0 hF
  have M := Lib.hid (FIn.mk HF.out HB.out)
  have B := Lib.hid (Below.refl W0.heap.size W0)
  have H16 := Lib.hid (fun W hW => readyF_any F f W hW)
  cases hr : readyB9 f
  · rw [hr] at H16
    clear hok hr
    obtain ⟨L, Ap, cp, Aq, cq⟩ := F
    go_enter Try.func4, Try.ntmps4
    go_upto_region 1 with (fail)
    have e := HW0.out
    rw [e]
    clear e

    go_wp2_with (first
      | (go_at_call 16; refine (H16.out _ M.out.H).mono ?_; rintro e wn ⟨rfl, hb⟩; have MN := Lib.hid (M.out.next hb); have BN := Lib.hid (hb0to B.out hb); have M := MN; have B := BN; clear MN BN; (first | (have IN := Lib.hid (ints_later I.out hb); have I := IN; clear IN) | skip); obtain ⟨r0, r1, r2, r3, r4, r5, r6, r7⟩ := M.out.x.cells; clear hb)
      | (go_at_call 19; refine (works_any _).mono ?_; rintro e wn ⟨rfl, hb⟩; have MN := Lib.hid (M.out.next hb); have BN := Lib.hid (hb0to B.out hb); have M := MN; have B := BN; clear MN BN; (first | (have IN := Lib.hid (ints_later I.out hb); have I := IN; clear IN) | skip); obtain ⟨r0, r1, r2, r3, r4, r5, r6, r7⟩ := M.out.x.cells; clear hb))
    go_ret
    exact ⟨rfl, hb0to HBW.out B.out⟩
  · rw [hr] at H16
    obtain ⟨hh, hv⟩ := readyB9_iff.1 hr
    have hf := FOK.of hv
    have hn := hugeF_fn hh
    have H17 := Lib.hid (fun W => rIsBuyer_any F f a hf.n0 hf.n1 W)
    clear hr
    cases hb1 : isBuyer f a
    · rw [hb1] at H17
      clear hok hb1 hf hn hv hh
      obtain ⟨L, Ap, cp, Aq, cq⟩ := F
      go_enter Try.func4, Try.ntmps4
      go_upto_region 1 with (fail)
      have e := HW0.out
      rw [e]
      clear e

      go_wp2_with (first
        | (go_at_call 16; refine (H16.out _ M.out.H).mono ?_; rintro e wn ⟨rfl, hb⟩; have MN := Lib.hid (M.out.next hb); have BN := Lib.hid (hb0to B.out hb); have M := MN; have B := BN; clear MN BN; (first | (have IN := Lib.hid (ints_later I.out hb); have I := IN; clear IN) | skip); obtain ⟨r0, r1, r2, r3, r4, r5, r6, r7⟩ := M.out.x.cells; clear hb)
        | (go_at_call 17; refine (H17.out _).mono ?_; rintro e wn ⟨rfl, hb⟩; have MN := Lib.hid (M.out.next hb); have BN := Lib.hid (hb0to B.out hb); have M := MN; have B := BN; clear MN BN; (first | (have IN := Lib.hid (ints_later I.out hb); have I := IN; clear IN) | skip); obtain ⟨r0, r1, r2, r3, r4, r5, r6, r7⟩ := M.out.x.cells; clear hb)
        | (go_at_call 19; refine (works_any _).mono ?_; rintro e wn ⟨rfl, hb⟩; have MN := Lib.hid (M.out.next hb); have BN := Lib.hid (hb0to B.out hb); have M := MN; have B := BN; clear MN BN; (first | (have IN := Lib.hid (ints_later I.out hb); have I := IN; clear IN) | skip); obtain ⟨r0, r1, r2, r3, r4, r5, r6, r7⟩ := M.out.x.cells; clear hb))
      go_ret
      exact ⟨rfl, hb0to HBW.out B.out⟩
    · rw [hb1] at H17
      have H25 := Lib.hid (fun W hW => mostF_any F f hn hv W hW)
      have H26 := Lib.hid (fun W hW => without_any F f hn hok a W hW)
      have H25g := Lib.hid (fun G W hW => mostF_any G (withoutF f a) (without_fn hn a) (without_valid hv a) W hW)
      have H20 := Lib.hid (fun W hW => winnersF_any F f hn hv W hW)
      have H23 := Lib.hid (fun W hW => Pays_any F f hn a W hW)
      rw [show payRet f a = (payV f.q (rdF f) a, 0) from numRF_ok (by rw [hb1]; exact ask_valid hv)] at H23
      have H21 := Lib.hid (fun A c W hW hI => wonF_any F f hn (wL f) (fun i hi => (wL_win hf).sale.lt hi) (by have := wL_len hf; have := hf.ql; omega) A c a W hW hI)
      obtain ⟨p1, p2, p3, p4⟩ := without_plain hv a
      have hown := own_won (wL_win hf).sale a
      have hmb := mW_bd hf
      have HHB := Lib.hid (fun k => highTo_le hf.pay a k)
      have HXP := Lib.hid hf.pay
      have hql := hf.ql
      have hob : 0 ≤ ownL f.q a (wL f) := brings_nonneg hf.pos' _
      generalize payV f.q (rdF f) a = pv at H23 p3
      generalize mW (withoutF f a) = m at H25g p1 p2 p3 p4
      generalize mW f = n at H25 p2 p3 p4 hmb
      generalize ownL f.q a (wL f) = ow at hown p3 hob
      have HFN := Lib.hid p4
      have d1 : decide (n < 0) = false := decide_eq_false (by omega)
      have d2 : decide (m < 0) = false := decide_eq_false (by omega)
      have d3 : decide (n < m) = false := decide_eq_false (by omega)
      clear hok hb1 hn hv hh p4
      rcases hown with ⟨hw, h0⟩ | ⟨i, bd, hi, hbq, hw, h0⟩
      · rw [hw] at H21
        subst h0
        have d4 : (pv == m - n) = true := beq_iff_eq.2 (by omega)
        have d5 : (pv == m - (n - 0)) = true := beq_iff_eq.2 (by omega)
        generalize wL f = wl at H20 H21
        clear hw hf p3
        obtain ⟨L, Ap, cp, Aq, cq⟩ := F
        go_enter Try.func4, Try.ntmps4
        go_upto_region 1 with (fail)
        have e := HW0.out
        rw [e]
        clear e
        go_wp2_with (first
          | (go_at_call 16; refine (H16.out _ M.out.H).mono ?_; rintro e wn ⟨rfl, hb⟩; have MN := Lib.hid (M.out.next hb); have BN := Lib.hid (hb0to B.out hb); have M := MN; have B := BN; clear MN BN; (first | (have IN := Lib.hid (ints_later I.out hb); have I := IN; clear IN) | skip); obtain ⟨r0, r1, r2, r3, r4, r5, r6, r7⟩ := M.out.x.cells; clear hb)
          | (go_at_call 17; refine (H17.out _).mono ?_; rintro e wn ⟨rfl, hb⟩; have MN := Lib.hid (M.out.next hb); have BN := Lib.hid (hb0to B.out hb); have M := MN; have B := BN; clear MN BN; (first | (have IN := Lib.hid (ints_later I.out hb); have I := IN; clear IN) | skip); obtain ⟨r0, r1, r2, r3, r4, r5, r6, r7⟩ := M.out.x.cells; clear hb)
          | (go_at_call 26; refine (H26.out _ M.out.H).mono ?_; rintro e wn ⟨⟨⟨⟨k1, k2, k3, k4, k5, k6⟩, k7, k8, k9, k10⟩, rfl, hg⟩, hb⟩; have HG := Lib.hid hg; have MN := Lib.hid (M.out.next hb); have BN := Lib.hid (hb0to B.out hb); have M := MN; have B := BN; clear MN BN; (first | (have IN := Lib.hid (ints_later I.out hb); have I := IN; clear IN) | skip); obtain ⟨r0, r1, r2, r3, r4, r5, r6, r7⟩ := M.out.x.cells; clear hg hb)
          | (have hg9 := HG.out; go_at_call 25; refine (H25g.out _ _ hg9).mono ?_; rintro e wn ⟨rfl, hb⟩; have MN := Lib.hid (M.out.next hb); have BN := Lib.hid (hb0to B.out hb); have M := MN; have B := BN; clear MN BN; (first | (have IN := Lib.hid (ints_later I.out hb); have I := IN; clear IN) | skip); obtain ⟨r0, r1, r2, r3, r4, r5, r6, r7⟩ := M.out.x.cells; clear hg9 HG hb)
          | (go_at_call 25; refine (H25.out _ M.out.H).mono ?_; rintro e wn ⟨rfl, hb⟩; have MN := Lib.hid (M.out.next hb); have BN := Lib.hid (hb0to B.out hb); have M := MN; have B := BN; clear MN BN; (first | (have IN := Lib.hid (ints_later I.out hb); have I := IN; clear IN) | skip); obtain ⟨r0, r1, r2, r3, r4, r5, r6, r7⟩ := M.out.x.cells; clear hb)
          | (go_at_call 20; refine (H20.out _ M.out.H).mono ?_; rintro e wn ⟨⟨A3, k3, rfl, hI⟩, hb⟩; have MN := Lib.hid (M.out.next hb); have BN := Lib.hid (hb0to B.out hb); have M := MN; have B := BN; clear MN BN; (first | (have IN := Lib.hid (ints_later I.out hb); have I := IN; clear IN) | skip); obtain ⟨r0, r1, r2, r3, r4, r5, r6, r7⟩ := M.out.x.cells; have I := Lib.hid hI; clear hI; clear hb)
          | (go_at_call 23; refine (H23.out _ M.out.H).mono ?_; rintro e wn ⟨rfl, hb⟩; have MN := Lib.hid (M.out.next hb); have BN := Lib.hid (hb0to B.out hb); have M := MN; have B := BN; clear MN BN; (first | (have IN := Lib.hid (ints_later I.out hb); have I := IN; clear IN) | skip); obtain ⟨r0, r1, r2, r3, r4, r5, r6, r7⟩ := M.out.x.cells; clear hb))
        clear r0 r1 r2 r3 r4 r5 r6 r7 H16 H17 H26 H25g H25 H20 H23
        go_loopw [11, 12] (fun s i wr => ∃ k : Nat, k ≤ f.q.length ∧ i = .int .i64 k ∧ s = .int .i64 (highTo f.q a k) ∧ Hid (FIn wr w.heap.size ⟨L, Ap, cp, Aq, cq⟩ f) ∧ Hid (IntsAt wr wr.heap.size A3 (intsN wl)) ∧ Hid (Below W0.heap.size W0 wr)) (fun _ i _ => f.q.length - (intOf i).toNat)
        case atStart => exact ⟨0, Nat.zero_le _, rfl, rfl, M, I, B⟩
        case round =>
          obtain ⟨k, hk, rfl, rfl, M, I, B⟩ := hrel
          obtain ⟨r0, r1, r2, r3, r4, r5, r6, r7⟩ := M.out.x.cells
          have hhb := HHB.out k
          by_cases hlt : k < f.q.length
          · obtain ⟨x, hx⟩ : ∃ x, f.q[k]? = some x := ⟨_, List.getElem?_eq_getElem hlt⟩
            obtain ⟨bk2, ok2, A', c', eA2, hbk2, d1, d2, d3, hA', hXI⟩ := HF.out.q.at_ hx
            have e1 := below_cell B.out d1
            have e3 := below_cell B.out d3
            have HS := Lib.hid (highTo_succ f.q a k)
            rw [own_some hx, payAt_some hx] at HS
            have hxp := HXP.out x (List.mem_of_getElem? hx)
            have EA := Lib.hid eA2
            clear d1 d2 d3 hA' hXI hx eA2
            simp only at EA
            rw [EA.out] at r7
            obtain ⟨hi, hhi⟩ : ∃ z, highTo f.q a k = z := ⟨_, rfl⟩
            rw [hhi] at hhb ⊢
            rw [hhi] at HS
            clear hhi
            by_cases hw : x.who = a
            · have hd : (x.who == a) = true := beq_iff_eq.2 hw
              have hd2 : decide (x.who = a) = true := decide_eq_true hw
              rw [hd2, if_pos rfl] at HS
              clear hw hd2
              by_cases hp : hi < x.pay
              · have hp2 : hi ≤ x.pay := by omega
                rw [show max hi x.pay = x.pay by omega] at HS
                go_wp2_with (fail)
                go_roundw
                case rel => exact ⟨k + 1, by omega, by go_num, by rw [HS.out], M, I, B⟩
                case measure => simp [intOf]; omega
              · have hp2 : x.pay ≤ hi := by omega
                rw [show max hi x.pay = hi by omega] at HS
                clear hp
                go_wp2_with (fail)
                go_roundw
                case rel => exact ⟨k + 1, by omega, by go_num, by rw [HS.out], M, I, B⟩
                case measure => simp [intOf]; omega
            · have hd : (x.who == a) = false := beq_eq_false_iff_ne.2 hw
              have hd2 : decide (x.who = a) = false := decide_eq_false hw
              rw [hd2, if_neg (by simp)] at HS
              clear hw hd2
              go_wp2_with (fail)
              go_roundw
              case rel => exact ⟨k + 1, by omega, by go_num, by rw [HS.out], M, I, B⟩
              case measure => simp [intOf]; omega
          · obtain rfl : k = f.q.length := by omega
            have hfin := HFN.out
            obtain ⟨hi, hhi⟩ : ∃ z, highTo f.q a f.q.length = z := ⟨_, rfl⟩
            rw [hhi] at hhb hfin ⊢
            have hd7 : decide (n - hi ≤ m) = true := decide_eq_true (by omega)
            clear hhi hfin
            go_wp2_with (first
              | (go_at_call 21; refine (H21.out A3 k3 _ M.out.H I.out).mono ?_; rintro e wn ⟨rfl, hb⟩; have MN := Lib.hid (M.out.next hb); have BN := Lib.hid (hb0to B.out hb); have M := MN; have B := BN; clear MN BN; (first | (have IN := Lib.hid (ints_later I.out hb); have I := IN; clear IN) | skip); obtain ⟨r0, r1, r2, r3, r4, r5, r6, r7⟩ := M.out.x.cells; clear hb)
              | (go_at_call 19; refine (works_any _).mono ?_; rintro e wn ⟨rfl, hb⟩; have MN := Lib.hid (M.out.next hb); have BN := Lib.hid (hb0to B.out hb); have M := MN; have B := BN; clear MN BN; (first | (have IN := Lib.hid (ints_later I.out hb); have I := IN; clear IN) | skip); obtain ⟨r0, r1, r2, r3, r4, r5, r6, r7⟩ := M.out.x.cells; clear hb))
            go_ret
            exact ⟨rfl, hb0to HBW.out B.out⟩
      · rw [hw] at H21
        subst h0
        have d4 : (pv == m - (n - bd.pay)) = true := beq_iff_eq.2 (by omega)
        have hil : i < f.q.length := (List.getElem?_eq_some_iff.1 hbq).1
        have d5 : decide ((0 : Int) ≤ (i : Int)) = true := decide_eq_true (by omega)
        have hxb := hf.pay bd (List.mem_of_getElem? hbq)
        generalize wL f = wl at H20 H21
        clear hw hf p3 hi
        obtain ⟨L, Ap, cp, Aq, cq⟩ := F
        obtain ⟨bk, ok, A', c', rfl, hbk, x1, x2, x3, hA', hXI⟩ := HF.out.q.at_ hbq
        have X3 := Lib.hid x3
        clear x1 x2 x3 hA' hXI hbq
        go_enter Try.func4, Try.ntmps4
        go_upto_region 1 with (fail)
        have e := HW0.out
        rw [e]
        clear e
        go_wp2_with (first
          | (go_at_call 16; refine (H16.out _ M.out.H).mono ?_; rintro e wn ⟨rfl, hb⟩; have MN := Lib.hid (M.out.next hb); have BN := Lib.hid (hb0to B.out hb); have M := MN; have B := BN; clear MN BN; (first | (have IN := Lib.hid (ints_later I.out hb); have I := IN; clear IN) | skip); obtain ⟨r0, r1, r2, r3, r4, r5, r6, r7⟩ := M.out.x.cells; clear hb)
          | (go_at_call 17; refine (H17.out _).mono ?_; rintro e wn ⟨rfl, hb⟩; have MN := Lib.hid (M.out.next hb); have BN := Lib.hid (hb0to B.out hb); have M := MN; have B := BN; clear MN BN; (first | (have IN := Lib.hid (ints_later I.out hb); have I := IN; clear IN) | skip); obtain ⟨r0, r1, r2, r3, r4, r5, r6, r7⟩ := M.out.x.cells; clear hb)
          | (go_at_call 26; refine (H26.out _ M.out.H).mono ?_; rintro e wn ⟨⟨⟨⟨k1, k2, k3, k4, k5, k6⟩, k7, k8, k9, k10⟩, rfl, hg⟩, hb⟩; have HG := Lib.hid hg; have MN := Lib.hid (M.out.next hb); have BN := Lib.hid (hb0to B.out hb); have M := MN; have B := BN; clear MN BN; (first | (have IN := Lib.hid (ints_later I.out hb); have I := IN; clear IN) | skip); obtain ⟨r0, r1, r2, r3, r4, r5, r6, r7⟩ := M.out.x.cells; clear hg hb)
          | (have hg9 := HG.out; go_at_call 25; refine (H25g.out _ _ hg9).mono ?_; rintro e wn ⟨rfl, hb⟩; have MN := Lib.hid (M.out.next hb); have BN := Lib.hid (hb0to B.out hb); have M := MN; have B := BN; clear MN BN; (first | (have IN := Lib.hid (ints_later I.out hb); have I := IN; clear IN) | skip); obtain ⟨r0, r1, r2, r3, r4, r5, r6, r7⟩ := M.out.x.cells; clear hg9 HG hb)
          | (go_at_call 25; refine (H25.out _ M.out.H).mono ?_; rintro e wn ⟨rfl, hb⟩; have MN := Lib.hid (M.out.next hb); have BN := Lib.hid (hb0to B.out hb); have M := MN; have B := BN; clear MN BN; (first | (have IN := Lib.hid (ints_later I.out hb); have I := IN; clear IN) | skip); obtain ⟨r0, r1, r2, r3, r4, r5, r6, r7⟩ := M.out.x.cells; clear hb)
          | (go_at_call 20; refine (H20.out _ M.out.H).mono ?_; rintro e wn ⟨⟨A3, k3, rfl, hI⟩, hb⟩; have MN := Lib.hid (M.out.next hb); have BN := Lib.hid (hb0to B.out hb); have M := MN; have B := BN; clear MN BN; (first | (have IN := Lib.hid (ints_later I.out hb); have I := IN; clear IN) | skip); obtain ⟨r0, r1, r2, r3, r4, r5, r6, r7⟩ := M.out.x.cells; have I := Lib.hid hI; clear hI; clear hb)
          | (go_at_call 23; refine (H23.out _ M.out.H).mono ?_; rintro e wn ⟨rfl, hb⟩; have MN := Lib.hid (M.out.next hb); have BN := Lib.hid (hb0to B.out hb); have M := MN; have B := BN; clear MN BN; (first | (have IN := Lib.hid (ints_later I.out hb); have I := IN; clear IN) | skip); obtain ⟨r0, r1, r2, r3, r4, r5, r6, r7⟩ := M.out.x.cells; clear hb))
        clear r0 r1 r2 r3 r4 r5 r6 r7 H16 H17 H26 H25g H25 H20 H23
        go_loopw [11, 12] (fun s i wr => ∃ k : Nat, k ≤ f.q.length ∧ i = .int .i64 k ∧ s = .int .i64 (highTo f.q a k) ∧ Hid (FIn wr w.heap.size ⟨L, Ap, cp, some ⟨bk, ok, none⟩, cq⟩ f) ∧ Hid (IntsAt wr wr.heap.size A3 (intsN wl)) ∧ Hid (Below W0.heap.size W0 wr)) (fun _ i _ => f.q.length - (intOf i).toNat)
        case atStart => exact ⟨0, Nat.zero_le _, rfl, rfl, M, I, B⟩
        case round =>
          obtain ⟨k, hk, rfl, rfl, M, I, B⟩ := hrel
          obtain ⟨r0, r1, r2, r3, r4, r5, r6, r7⟩ := M.out.x.cells
          have hhb := HHB.out k
          by_cases hlt : k < f.q.length
          · obtain ⟨x, hx⟩ : ∃ x, f.q[k]? = some x := ⟨_, List.getElem?_eq_getElem hlt⟩
            obtain ⟨bk2, ok2, A', c', eA2, hbk2, d1, d2, d3, hA', hXI⟩ := HF.out.q.at_ hx
            have e1 := below_cell B.out d1
            have e3 := below_cell B.out d3
            have HS := Lib.hid (highTo_succ f.q a k)
            rw [own_some hx, payAt_some hx] at HS
            have hxp := HXP.out x (List.mem_of_getElem? hx)
            have EA := Lib.hid eA2
            clear d1 d2 d3 hA' hXI hx eA2
            simp only at EA
            rw [EA.out] at r7
            obtain ⟨hi, hhi⟩ : ∃ z, highTo f.q a k = z := ⟨_, rfl⟩
            rw [hhi] at hhb ⊢
            rw [hhi] at HS
            clear hhi
            by_cases hw : x.who = a
            · have hd : (x.who == a) = true := beq_iff_eq.2 hw
              have hd2 : decide (x.who = a) = true := decide_eq_true hw
              rw [hd2, if_pos rfl] at HS
              clear hw hd2
              by_cases hp : hi < x.pay
              · have hp2 : hi ≤ x.pay := by omega
                rw [show max hi x.pay = x.pay by omega] at HS
                go_wp2_with (fail)
                go_roundw
                case rel => exact ⟨k + 1, by omega, by go_num, by rw [HS.out], M, I, B⟩
                case measure => simp [intOf]; omega
              · have hp2 : x.pay ≤ hi := by omega
                rw [show max hi x.pay = hi by omega] at HS
                clear hp
                go_wp2_with (fail)
                go_roundw
                case rel => exact ⟨k + 1, by omega, by go_num, by rw [HS.out], M, I, B⟩
                case measure => simp [intOf]; omega
            · have hd : (x.who == a) = false := beq_eq_false_iff_ne.2 hw
              have hd2 : decide (x.who = a) = false := decide_eq_false hw
              rw [hd2, if_neg (by simp)] at HS
              clear hw hd2
              go_wp2_with (fail)
              go_roundw
              case rel => exact ⟨k + 1, by omega, by go_num, by rw [HS.out], M, I, B⟩
              case measure => simp [intOf]; omega
          · obtain rfl : k = f.q.length := by omega
            have hfin := HFN.out
            obtain ⟨hi, hhi⟩ : ∃ z, highTo f.q a f.q.length = z := ⟨_, rfl⟩
            rw [hhi] at hhb hfin ⊢
            have hd7 : decide (n - hi ≤ m) = true := decide_eq_true (by omega)
            clear hhi hfin
            go_wp2_with (first
              | (go_at_call 21; refine (H21.out A3 k3 _ M.out.H I.out).mono ?_; rintro e wn ⟨rfl, hb⟩; have MN := Lib.hid (M.out.next hb); have BN := Lib.hid (hb0to B.out hb); have M := MN; have B := BN; clear MN BN; (first | (have IN := Lib.hid (ints_later I.out hb); have I := IN; clear IN) | skip); obtain ⟨r0, r1, r2, r3, r4, r5, r6, r7⟩ := M.out.x.cells; have e3 := below_cell B.out X3.out; clear hb)
              | (go_at_call 19; refine (works_any _).mono ?_; rintro e wn ⟨rfl, hb⟩; have MN := Lib.hid (M.out.next hb); have BN := Lib.hid (hb0to B.out hb); have M := MN; have B := BN; clear MN BN; (first | (have IN := Lib.hid (ints_later I.out hb); have I := IN; clear IN) | skip); obtain ⟨r0, r1, r2, r3, r4, r5, r6, r7⟩ := M.out.x.cells; clear hb))
            go_ret
            exact ⟨rfl, hb0to HBW.out B.out⟩

end Go.Proofs.Ytmconopnplgcfaa
