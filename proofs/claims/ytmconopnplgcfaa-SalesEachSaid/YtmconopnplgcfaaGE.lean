import Derived.Test.YtmconopnplgcfaaEA
namespace Go.Proofs.Ytmconopnplgcfaa
open Go.RowKit

/-! SalesEach. -/
set_option maxRecDepth 100000 in
set_option maxHeartbeats 4000000 in
theorem each_law (F : FL) (f : Fair) (A : Option Addr) (c : Nat) (l : List Int) (hA : A = none → c = 0 ∧ l = []) (w : World) (hF : FairAt w w.heap.size F f) (hI : IntsAt w w.heap.size A l) : Calls Try.prog 13 #[F.enc f, .slice A l.length c] w fun e w' => e = .returned (.bool true) ∧ Below w.heap.size w w' := by
  have hbw := al_below w (.cells #[.slice F.L.Ak f.h.ks.length F.L.ck, .int .i64 f.h.fl, .slice F.L.Ap f.h.ps.length F.L.cp, .slice F.L.Ab f.h.bs.length F.L.cb, .slice F.Ap f.pk.length F.cp, .int .i64 f.day, .int .i64 f.nb, .slice F.Aq f.q.length F.cq] 29)
  have HB := Lib.hid (FBox.new w F f)
  obtain ⟨c0, c1, c2, c3, c4, c5, c6, c7⟩ := (FBox.new w F f).cells
  obtain ⟨W0, hW0⟩ : ∃ W0, w.alloc (.cells #[.slice F.L.Ak f.h.ks.length F.L.ck, .int .i64 f.h.fl, .slice F.L.Ap f.h.ps.length F.L.cp, .slice F.L.Ab f.h.bs.length F.L.cb, .slice F.Ap f.pk.length F.cp, .int .i64 f.day, .int .i64 f.nb, .slice F.Aq f.q.length F.cq] 29) = W0 := ⟨_, rfl⟩
  rw [hW0] at hbw HB c0 c1 c2 c3 c4 c5 c6 c7
  have HBW := Lib.hid hbw
  have HW0 := Lib.hid hW0
  have HF := Lib.hid (hF.below hbw)
  clear hbw hW0 hF
  have M := Lib.hid (FIn.mk HF.out HB.out)
  have B := Lib.hid (Below.refl W0.heap.size W0)
  have S := Lib.hid (ints_later hI HBW.out)
  clear hI
  have HA := Lib.hid hA
  clear hA
  have H16 := Lib.hid (fun W hW => readyF_any F f W hW)
  cases hr : readyB9 f
  · rw [hr] at H16
    clear hr
    obtain ⟨L, Ap, cp, Aq, cq⟩ := F
    go_enter Try.func13, Try.ntmps13
    go_upto_region 1 with (fail)
    have e := HW0.out
    rw [e]
    clear e

    go_wp2_with (first
      | (go_at_call 16; refine (H16.out _ M.out.H).mono ?_; rintro e wn ⟨rfl, hb⟩; have MN := Lib.hid (M.out.next hb); have BN := Lib.hid (hb0to B.out hb); have M := MN; have B := BN; clear MN BN; have SN := Lib.hid (ints_later S.out hb); have S := SN; clear SN; (first | (have IN := Lib.hid (ints_later I.out hb); have I := IN; clear IN) | skip); obtain ⟨r0, r1, r2, r3, r4, r5, r6, r7⟩ := M.out.x.cells; clear hb)
      | (go_at_call 19; refine (works_any _).mono ?_; rintro e wn ⟨rfl, hb⟩; have MN := Lib.hid (M.out.next hb); have BN := Lib.hid (hb0to B.out hb); have M := MN; have B := BN; clear MN BN; have SN := Lib.hid (ints_later S.out hb); have S := SN; clear SN; (first | (have IN := Lib.hid (ints_later I.out hb); have I := IN; clear IN) | skip); obtain ⟨r0, r1, r2, r3, r4, r5, r6, r7⟩ := M.out.x.cells; clear hb))
    go_ret
    exact ⟨rfl, hb0to HBW.out B.out⟩
  · rw [hr] at H16
    obtain ⟨hh, hv⟩ := readyB9_iff.1 hr
    have hf := FOK.of hv
    have hn := hugeF_fn hh
    clear hr hh
    by_cases h40 : 40 < l.length
    · have d1 : decide ((40 : Int) < (l.length : Int)) = true := decide_eq_true (by omega)
      clear hf hn hv
      obtain ⟨L, Ap, cp, Aq, cq⟩ := F
      go_enter Try.func13, Try.ntmps13
      go_upto_region 1 with (fail)
      have e := HW0.out
      rw [e]
      clear e

      go_wp2_with (first
        | (go_at_call 16; refine (H16.out _ M.out.H).mono ?_; rintro e wn ⟨rfl, hb⟩; have MN := Lib.hid (M.out.next hb); have BN := Lib.hid (hb0to B.out hb); have M := MN; have B := BN; clear MN BN; have SN := Lib.hid (ints_later S.out hb); have S := SN; clear SN; (first | (have IN := Lib.hid (ints_later I.out hb); have I := IN; clear IN) | skip); obtain ⟨r0, r1, r2, r3, r4, r5, r6, r7⟩ := M.out.x.cells; clear hb)
        | (go_at_call 19; refine (works_any _).mono ?_; rintro e wn ⟨rfl, hb⟩; have MN := Lib.hid (M.out.next hb); have BN := Lib.hid (hb0to B.out hb); have M := MN; have B := BN; clear MN BN; have SN := Lib.hid (ints_later S.out hb); have S := SN; clear SN; (first | (have IN := Lib.hid (ints_later I.out hb); have I := IN; clear IN) | skip); obtain ⟨r0, r1, r2, r3, r4, r5, r6, r7⟩ := M.out.x.cells; clear hb))
      go_ret
      exact ⟨rfl, hb0to HBW.out B.out⟩
    · have d1 : decide ((40 : Int) < (l.length : Int)) = false := decide_eq_false (by omega)
      have hl : l.length ≤ 1000 := by omega
      have H56 := Lib.hid (fun W hW hI => rIsSale_any F f hn hf l hl A c W hW hI)
      cases hs : isSaleB f.q (rdF f) l
      · rw [hs] at H56
        clear hf hn hv hs
        obtain ⟨L, Ap, cp, Aq, cq⟩ := F
        go_enter Try.func13, Try.ntmps13
        go_upto_region 1 with (fail)
        have e := HW0.out
        rw [e]
        clear e

        go_wp2_with (first
          | (go_at_call 16; refine (H16.out _ M.out.H).mono ?_; rintro e wn ⟨rfl, hb⟩; have MN := Lib.hid (M.out.next hb); have BN := Lib.hid (hb0to B.out hb); have M := MN; have B := BN; clear MN BN; have SN := Lib.hid (ints_later S.out hb); have S := SN; clear SN; (first | (have IN := Lib.hid (ints_later I.out hb); have I := IN; clear IN) | skip); obtain ⟨r0, r1, r2, r3, r4, r5, r6, r7⟩ := M.out.x.cells; clear hb)
          | (go_at_call 56; refine (H56.out _ M.out.H S.out).mono ?_; rintro e wn ⟨rfl, hb⟩; have MN := Lib.hid (M.out.next hb); have BN := Lib.hid (hb0to B.out hb); have M := MN; have B := BN; clear MN BN; have SN := Lib.hid (ints_later S.out hb); have S := SN; clear SN; (first | (have IN := Lib.hid (ints_later I.out hb); have I := IN; clear IN) | skip); obtain ⟨r0, r1, r2, r3, r4, r5, r6, r7⟩ := M.out.x.cells; clear hb)
          | (go_at_call 19; refine (works_any _).mono ?_; rintro e wn ⟨rfl, hb⟩; have MN := Lib.hid (M.out.next hb); have BN := Lib.hid (hb0to B.out hb); have M := MN; have B := BN; clear MN BN; have SN := Lib.hid (ints_later S.out hb); have S := SN; clear SN; (first | (have IN := Lib.hid (ints_later I.out hb); have I := IN; clear IN) | skip); obtain ⟨r0, r1, r2, r3, r4, r5, r6, r7⟩ := M.out.x.cells; clear hb))
        go_ret
        exact ⟨rfl, hb0to HBW.out B.out⟩
      · rw [hs] at H56
        have H25 := Lib.hid (fun W hW => mostF_any F f hn hv W hW)
        have H20 := Lib.hid (fun W hW => winnersF_any F f hn hv W hW)
        have H50 := Lib.hid (fun A c W hW hI => Good50_any F f hn l hl A c W hW hI)
        rw [good_yes hv hs] at H50
        have hwl := wL_len hf
        have hql := hf.ql
        have H57 := Lib.hid (fun A c W hW hI => rBrings_any F f hf.ql hf.pay (wL f) (by omega) (fun i hi => (wL_win hf).sale.lt hi) A c W hW hI)
        rw [show bringsL f.q (wL f) = mW f from (mostV_win hf.ql hf.pos').symm] at H57
        obtain ⟨sl, hsl, hss⟩ := sale_nat hs
        have hsn : sl.length = l.length := by rw [hsl, intsN_len]
        have hs8 : sl.length ≤ 8 := by
          obtain ⟨m, _, e⟩ := bits_all f.q.length hf.ql sl hss.up (fun i hi => hss.lt hi)
          have := bits_len f.q.length m
          rw [e] at this
          omega
        have HS57 := Lib.hid (fun (W : World) (hW : FairAt W W.heap.size F f) (hI : IntsAt W W.heap.size A l) => (by
          have h := rBrings_any F f hf.ql hf.pay sl hs8 (fun i hi => hss.lt hi) A c W hW (by rw [← hsl]; exact hI)
          rw [hsn] at h
          exact h : Calls Try.prog 57 #[F.enc f, .slice A l.length c] W fun e w' => e = .returned (.int .i64 (bringsL f.q sl)) ∧ Below W.heap.size W w'))
        have H58 := Lib.hid (fun (A3 : Option Addr) (k3 : Nat) (W : World) (hI : IntsAt W W.heap.size A l) (hJ : IntsAt W W.heap.size A3 (intsN (wL f))) => (by
          have h := rEarlier_any l (intsN (wL f)) A A3 c k3 hl (by rw [intsN_len]; omega) W hI hJ
          rw [intsN_len, show earlierB l (intsN (wL f)) = earlierN sl (wL f) by rw [hsl]; exact earlier_n sl (wL f)] at h
          exact h : Calls Try.prog 58 #[.slice A l.length c, .slice A3 (wL f).length k3] W fun e w' => e = .returned (.bool (earlierN sl (wL f))) ∧ Below W.heap.size W w'))
        have H36 := Lib.hid (fun (k : Nat) (hk : k < f.q.length) (W : World) (hW : FairAt W W.heap.size F f) => (by
          have h := Won_any F f hn (k : Int) W hW
          rw [won_ret hv hk] at h
          exact h : Calls Try.prog 36 #[F.enc f, .int .i64 (k : Int)] W fun e w' => NumEnd (wonN (withV f.q (rdF f) k) (outV f.q (rdF f) k), 0) e ∧ Below W.heap.size W w'))
        have H24 := Lib.hid (fun (x : Int) (A : Option Addr) (c : Nat) (W : World) (hI : IntsAt W W.heap.size A (intsN (wL f))) => (by
          have h := rIn_any (intsN (wL f)) (by rw [intsN_len]; omega) x A c W hI
          rw [intsN_len] at h
          exact h : Calls Try.prog 24 #[.slice A (wL f).length c, .int .i64 x] W fun e w' => e = .returned (.bool (decide (x ∈ intsN (wL f)))) ∧ Below W.heap.size W w'))
        have HS24 := Lib.hid (fun (x : Int) W hI => rIn_any l hl x A c W hI)
        have HEW := Lib.hid (fun (k : Nat) (hk : k < f.q.length) => (by
          have h := each_won hf hk (wL_win hf).sale (mostV_win hf.ql hf.pos').symm
          exact ⟨fun e => decide_eq_true (mem_intsN.2 (h.1 e)), fun e => decide_eq_false fun hm => h.2 e (mem_intsN.1 hm)⟩ : (wonN (withV f.q (rdF f) k) (outV f.q (rdF f) k) = 1 → decide ((k : Int) ∈ intsN (wL f)) = true) ∧ (wonN (withV f.q (rdF f) k) (outV f.q (rdF f) k) = 2 → decide ((k : Int) ∈ intsN (wL f)) = false)))
        have hmb := mW_bd hf
        have HES : bringsL f.q sl = mW f → Hid (∀ k : Nat, k < f.q.length → (wonN (withV f.q (rdF f) k) (outV f.q (rdF f) k) = 1 → decide ((k : Int) ∈ l) = true) ∧ (wonN (withV f.q (rdF f) k) (outV f.q (rdF f) k) = 2 → decide ((k : Int) ∈ l) = false)) := fun eb => Lib.hid (fun k hk => by
          have h := each_won hf hk hss eb
          rw [hsl]
          exact ⟨fun e => decide_eq_true (mem_intsN.2 (h.1 e)), fun e => decide_eq_false fun hm => h.2 e (mem_intsN.1 hm)⟩)
        have hown := each_own hf hss
        rw [hsn] at hown
        have hd0 : decide (mW f < 0) = false := decide_eq_false (by omega)
        generalize mW f = n at H25 H57 HES hown hd0 hmb
        generalize bringsL f.q sl = own at HS57 HES hown
        generalize earlierN sl (wL f) = ea at H58 hown
        generalize wL f = wl at H20 H57 H58 H24 HEW hown hwl
        clear hf hn hv hs hsl hss hsn hs8 h40
        obtain ⟨L, Ap, cp, Aq, cq⟩ := F
        rcases hown with hlo | ⟨rfl, hlo⟩
        · have e1 : decide (n < own) = false := decide_eq_false (by omega)
          have e2 : (own == n) = false := beq_eq_false_iff_ne.2 (by omega)
          clear HES
          rcases Nat.lt_trichotomy l.length wl.length with hq | hq | hq
          · have e3 : decide ((l.length : Int) < (wl.length : Int)) = true := decide_eq_true (by omega); have e5 : decide (l.length < wl.length) = true := decide_eq_true (by omega)
            clear hlo hq
            as_aux_lemma =>
              go_enter Try.func13, Try.ntmps13
              go_upto_region 1 with (fail)
              have e := HW0.out
              rw [e]
              clear e
              go_upto_region 5 with (first
                | (go_at_call 16; refine (H16.out _ M.out.H).mono ?_; rintro e wn ⟨rfl, hb⟩; have MN := Lib.hid (M.out.next hb); have BN := Lib.hid (hb0to B.out hb); have M := MN; have B := BN; clear MN BN; have SN := Lib.hid (ints_later S.out hb); have S := SN; clear SN; (first | (have IN := Lib.hid (ints_later I.out hb); have I := IN; clear IN) | skip); obtain ⟨r0, r1, r2, r3, r4, r5, r6, r7⟩ := M.out.x.cells; clear hb)
                | (go_at_call 56; refine (H56.out _ M.out.H S.out).mono ?_; rintro e wn ⟨rfl, hb⟩; have MN := Lib.hid (M.out.next hb); have BN := Lib.hid (hb0to B.out hb); have M := MN; have B := BN; clear MN BN; have SN := Lib.hid (ints_later S.out hb); have S := SN; clear SN; (first | (have IN := Lib.hid (ints_later I.out hb); have I := IN; clear IN) | skip); obtain ⟨r0, r1, r2, r3, r4, r5, r6, r7⟩ := M.out.x.cells; clear hb)
                | (go_at_call 25; refine (H25.out _ M.out.H).mono ?_; rintro e wn ⟨rfl, hb⟩; have MN := Lib.hid (M.out.next hb); have BN := Lib.hid (hb0to B.out hb); have M := MN; have B := BN; clear MN BN; have SN := Lib.hid (ints_later S.out hb); have S := SN; clear SN; (first | (have IN := Lib.hid (ints_later I.out hb); have I := IN; clear IN) | skip); obtain ⟨r0, r1, r2, r3, r4, r5, r6, r7⟩ := M.out.x.cells; clear hb)
                | (go_at_call 20; refine (H20.out _ M.out.H).mono ?_; rintro e wn ⟨⟨A3, k3, rfl, hI⟩, hb⟩; have MN := Lib.hid (M.out.next hb); have BN := Lib.hid (hb0to B.out hb); have M := MN; have B := BN; clear MN BN; have SN := Lib.hid (ints_later S.out hb); have S := SN; clear SN; (first | (have IN := Lib.hid (ints_later I.out hb); have I := IN; clear IN) | skip); obtain ⟨r0, r1, r2, r3, r4, r5, r6, r7⟩ := M.out.x.cells; have I := Lib.hid hI; clear hI; clear hb))
              have HI0 := Lib.hid (ints_made wn wn.heap.size (Nat.le_refl _))
              go_cut [8, 9] (fun s8 s9 wx => s8 = .bool true ∧ s9 = .int .i64 0 ∧ Hid (Below wn.heap.size wn wx))
              case first =>
                go_region_held3 (fun w' => w'.cell? ⟨w.heap.size, 0, none⟩ = some (.slice L.Ak f.h.ks.length L.ck) ∧ w'.cell? ⟨w.heap.size, 1, none⟩ = some (.int .i64 f.h.fl) ∧ w'.cell? ⟨w.heap.size, 2, none⟩ = some (.slice L.Ap f.h.ps.length L.cp) ∧ w'.cell? ⟨w.heap.size, 3, none⟩ = some (.slice L.Ab f.h.bs.length L.cb) ∧ w'.cell? ⟨w.heap.size, 4, none⟩ = some (.slice Ap f.pk.length cp) ∧ w'.cell? ⟨w.heap.size, 5, none⟩ = some (.int .i64 f.day) ∧ w'.cell? ⟨w.heap.size, 6, none⟩ = some (.int .i64 f.nb) ∧ w'.cell? ⟨w.heap.size, 7, none⟩ = some (.slice Aq f.q.length cq)) (first | go_keep)
                  (first
                    | (refine step_copyI (by rfl) (.tmp 40) (.tmp 41) (by rfl) wn.heap.size _ [] (by rfl) (show Ints (wn.alloc (.cells #[] 3)).drew wn.heap.size _ [] from HI0.out) A c l HA.out (by rfl) (ints_later S.out (al_below wn (.cells #[] 3)).drew) (by simp) (by omega) (by simp) ?_; intro v4 w4 h1 h2; have B4 := Lib.hid ((al_below wn (.cells #[] 3)).drew.trans h2); obtain ⟨A4, c4', rfl, -, -, hA4⟩ := (show Ints w4 wn.heap.size v4 l from h1).lay; have I4 := Lib.hid hA4.at_; have M4 := Lib.hid (M.out.next B4.out); obtain ⟨u0, u1, u2, u3, u4, u5, u6, u7⟩ := M4.out.x.cells; clear h1 h2 hA4)
                    | (go_at_call 50; refine (H50.out A4 c4' w4 M4.out.H I4.out).mono ?_; rintro e w5 ⟨rfl, hb⟩; have B5 := Lib.hid (hb0to B4.out hb); have M5 := Lib.hid (M4.out.next hb); obtain ⟨v0, v1, v2, v3, v4, v5, v6, v7⟩ := M5.out.x.cells; clear hb))
                all_goals
                  go_wp2_with (fail)
                  go_meet
                  exact ⟨rfl, rfl, B5⟩
              case rest =>
                obtain ⟨rfl, rfl, hb⟩ := hcut
                obtain ⟨wx, rfl⟩ : ∃ x : World, x = wc := ⟨_, rfl⟩
                have MN := Lib.hid (M.out.next hb.out)
                have BN := Lib.hid (hb0to B.out hb.out)
                have SN := Lib.hid (ints_later S.out hb.out)
                have IN := Lib.hid (ints_later I.out hb.out)
                have M := MN
                have B := BN
                have S := SN
                have I := IN
                clear MN BN SN IN H16 H56 H25 H20 H50 hb r0 r1 r2 r3 r4 r5 r6 r7
                obtain ⟨r0, r1, r2, r3, r4, r5, r6, r7⟩ := M.out.x.cells
                go_wp2_with (first
                  | (go_at_call 57; refine (H57.out A3 k3 _ M.out.H I.out).mono ?_; rintro e wn ⟨rfl, hb⟩; have MN := Lib.hid (M.out.next hb); have BN := Lib.hid (hb0to B.out hb); have M := MN; have B := BN; clear MN BN; have SN := Lib.hid (ints_later S.out hb); have S := SN; clear SN; (first | (have IN := Lib.hid (ints_later I.out hb); have I := IN; clear IN) | skip); obtain ⟨r0, r1, r2, r3, r4, r5, r6, r7⟩ := M.out.x.cells; clear H57; clear hb)
                  | (go_at_call 57; refine (HS57.out _ M.out.H S.out).mono ?_; rintro e wn ⟨rfl, hb⟩; have MN := Lib.hid (M.out.next hb); have BN := Lib.hid (hb0to B.out hb); have M := MN; have B := BN; clear MN BN; have SN := Lib.hid (ints_later S.out hb); have S := SN; clear SN; (first | (have IN := Lib.hid (ints_later I.out hb); have I := IN; clear IN) | skip); obtain ⟨r0, r1, r2, r3, r4, r5, r6, r7⟩ := M.out.x.cells; clear hb))
                clear r0 r1 r2 r3 r4 r5 r6 r7
                go_loopw [12] (fun i wr => ∃ k : Nat, k ≤ f.q.length ∧ i = .int .i64 k ∧ Hid (FIn wr w.heap.size ⟨L, Ap, cp, Aq, cq⟩ f) ∧ Hid (IntsAt wr wr.heap.size A3 (intsN wl)) ∧ Hid (IntsAt wr wr.heap.size A l) ∧ Hid (Below W0.heap.size W0 wr)) (fun i _ => f.q.length - (intOf i).toNat)
                case atStart => exact ⟨0, Nat.zero_le _, rfl, M, I, S, B⟩
                case round =>
                  obtain ⟨k, hk, rfl, M, I, S, B⟩ := hrel
                  obtain ⟨r0, r1, r2, r3, r4, r5, r6, r7⟩ := M.out.x.cells
                  by_cases hlt : k < f.q.length
                  · have X36 := Lib.hid (fun W hW => H36.out k hlt W hW)
                    have X24 := Lib.hid (fun A c W hI => H24.out (k : Int) A c W hI)
                    have XS24 := Lib.hid (fun W hI => HS24.out (k : Int) W hI)
                    have hkb := wonN_in (withV f.q (rdF f) k) (outV f.q (rdF f) k)
                    have hew := HEW.out k hlt
                    generalize wonN (withV f.q (rdF f) k) (outV f.q (rdF f) k) = kw at X36 hkb hew
                    obtain ⟨bi, hbi⟩ : ∃ bi, decide ((k : Int) ∈ intsN wl) = bi := ⟨_, rfl⟩
                    obtain ⟨bs, hbs⟩ : ∃ bs, decide ((k : Int) ∈ l) = bs := ⟨_, rfl⟩
                    rw [hbi] at X24 hew
                    rw [hbs] at XS24
                    have hin : inR kw 1 3 = true := inR_true.2 hkb
                    clear hbi hbs
                    rcases (show kw = 1 ∨ kw = 2 ∨ kw = 3 by omega) with rfl | rfl | rfl
                    · obtain rfl : bi = true := hew.1 rfl
                      clear hew hkb
                      go_wp2_with (first
                        | (go_at_call 36; refine (X36.out wr M.out.H).mono ?_; rintro e w5 ⟨rfl, hb⟩; have B5 := Lib.hid (hb0to B.out hb); have M5 := Lib.hid (M.out.next hb); have I5 := Lib.hid (ints_later I.out hb); have S5 := Lib.hid (ints_later S.out hb); obtain ⟨r0, r1, r2, r3, r4, r5, r6, r7⟩ := M5.out.x.cells; clear hb)
                        | (go_at_call 18; refine (within1_any _ _ _ _).mono ?_; rintro e w' ⟨rfl, rfl⟩)
                        | (go_at_call 24; refine (X24.out A3 k3 w5 I5.out).mono ?_; rintro e w6 ⟨rfl, hb⟩; have B6 := Lib.hid (hb0to B5.out hb); have M6 := Lib.hid (M5.out.next hb); have I6 := Lib.hid (ints_later I5.out hb); have S6 := Lib.hid (ints_later S5.out hb); clear hb I5 S5)
                        | (go_at_call 24; refine (XS24.out w6 S6.out).mono ?_; rintro e w7 ⟨rfl, hb⟩; have B7 := Lib.hid (hb0to B6.out hb); have M7 := Lib.hid (M6.out.next hb); have I7 := Lib.hid (ints_later I6.out hb); have S7 := Lib.hid (ints_later S6.out hb); clear hb))
                      go_roundw
                      case rel => first | exact ⟨k + 1, by omega, by go_num, M7, I7, S7, B7⟩ | exact ⟨k + 1, by omega, by go_num, M6, I6, S6, B6⟩
                      case measure => simp [intOf]; omega

                    · obtain rfl : bi = false := hew.2 rfl
                      clear hew hkb
                      go_wp2_with (first
                        | (go_at_call 36; refine (X36.out wr M.out.H).mono ?_; rintro e w5 ⟨rfl, hb⟩; have B5 := Lib.hid (hb0to B.out hb); have M5 := Lib.hid (M.out.next hb); have I5 := Lib.hid (ints_later I.out hb); have S5 := Lib.hid (ints_later S.out hb); obtain ⟨r0, r1, r2, r3, r4, r5, r6, r7⟩ := M5.out.x.cells; clear hb)
                        | (go_at_call 18; refine (within1_any _ _ _ _).mono ?_; rintro e w' ⟨rfl, rfl⟩)
                        | (go_at_call 24; refine (X24.out A3 k3 w5 I5.out).mono ?_; rintro e w6 ⟨rfl, hb⟩; have B6 := Lib.hid (hb0to B5.out hb); have M6 := Lib.hid (M5.out.next hb); have I6 := Lib.hid (ints_later I5.out hb); have S6 := Lib.hid (ints_later S5.out hb); clear hb I5 S5)
                        | (go_at_call 24; refine (XS24.out w6 S6.out).mono ?_; rintro e w7 ⟨rfl, hb⟩; have B7 := Lib.hid (hb0to B6.out hb); have M7 := Lib.hid (M6.out.next hb); have I7 := Lib.hid (ints_later I6.out hb); have S7 := Lib.hid (ints_later S6.out hb); clear hb))
                      go_roundw
                      case rel => first | exact ⟨k + 1, by omega, by go_num, M7, I7, S7, B7⟩ | exact ⟨k + 1, by omega, by go_num, M6, I6, S6, B6⟩
                      case measure => simp [intOf]; omega

                    · clear hew hkb
                      go_wp2_with (first
                        | (go_at_call 36; refine (X36.out wr M.out.H).mono ?_; rintro e w5 ⟨rfl, hb⟩; have B5 := Lib.hid (hb0to B.out hb); have M5 := Lib.hid (M.out.next hb); have I5 := Lib.hid (ints_later I.out hb); have S5 := Lib.hid (ints_later S.out hb); obtain ⟨r0, r1, r2, r3, r4, r5, r6, r7⟩ := M5.out.x.cells; clear hb)
                        | (go_at_call 18; refine (within1_any _ _ _ _).mono ?_; rintro e w' ⟨rfl, rfl⟩)
                        | (go_at_call 24; refine (X24.out A3 k3 w5 I5.out).mono ?_; rintro e w6 ⟨rfl, hb⟩; have B6 := Lib.hid (hb0to B5.out hb); have M6 := Lib.hid (M5.out.next hb); have I6 := Lib.hid (ints_later I5.out hb); have S6 := Lib.hid (ints_later S5.out hb); clear hb I5 S5)
                        | (go_at_call 24; refine (XS24.out w6 S6.out).mono ?_; rintro e w7 ⟨rfl, hb⟩; have B7 := Lib.hid (hb0to B6.out hb); have M7 := Lib.hid (M6.out.next hb); have I7 := Lib.hid (ints_later I6.out hb); have S7 := Lib.hid (ints_later S6.out hb); clear hb))
                      go_roundw
                      case rel => first | exact ⟨k + 1, by omega, by go_num, M7, I7, S7, B7⟩ | exact ⟨k + 1, by omega, by go_num, M6, I6, S6, B6⟩
                      case measure => simp [intOf]; omega

                  · obtain rfl : k = f.q.length := by omega
                    go_wp2_with (go_at_call 19; refine (works_any _).mono ?_; rintro e w9 ⟨rfl, hb⟩; have B9 := Lib.hid (hb0to B.out hb); clear hb)
                    go_ret
                    exact ⟨rfl, hb0to HBW.out B9.out⟩

          · have e3 : decide ((l.length : Int) < (wl.length : Int)) = false := decide_eq_false (by omega); have e5 : decide (l.length < wl.length) = false := decide_eq_false (by omega)
            have e4 : ((l.length : Int) == (wl.length : Int)) = true := beq_iff_eq.2 (by omega); have e6 : (l.length == wl.length) = true := beq_iff_eq.2 (by omega); have e7 : decide (l.length = wl.length) = true := decide_eq_true (by omega)
            clear hlo hq
            as_aux_lemma =>
              go_enter Try.func13, Try.ntmps13
              go_upto_region 1 with (fail)
              have e := HW0.out
              rw [e]
              clear e
              go_upto_region 5 with (first
                | (go_at_call 16; refine (H16.out _ M.out.H).mono ?_; rintro e wn ⟨rfl, hb⟩; have MN := Lib.hid (M.out.next hb); have BN := Lib.hid (hb0to B.out hb); have M := MN; have B := BN; clear MN BN; have SN := Lib.hid (ints_later S.out hb); have S := SN; clear SN; (first | (have IN := Lib.hid (ints_later I.out hb); have I := IN; clear IN) | skip); obtain ⟨r0, r1, r2, r3, r4, r5, r6, r7⟩ := M.out.x.cells; clear hb)
                | (go_at_call 56; refine (H56.out _ M.out.H S.out).mono ?_; rintro e wn ⟨rfl, hb⟩; have MN := Lib.hid (M.out.next hb); have BN := Lib.hid (hb0to B.out hb); have M := MN; have B := BN; clear MN BN; have SN := Lib.hid (ints_later S.out hb); have S := SN; clear SN; (first | (have IN := Lib.hid (ints_later I.out hb); have I := IN; clear IN) | skip); obtain ⟨r0, r1, r2, r3, r4, r5, r6, r7⟩ := M.out.x.cells; clear hb)
                | (go_at_call 25; refine (H25.out _ M.out.H).mono ?_; rintro e wn ⟨rfl, hb⟩; have MN := Lib.hid (M.out.next hb); have BN := Lib.hid (hb0to B.out hb); have M := MN; have B := BN; clear MN BN; have SN := Lib.hid (ints_later S.out hb); have S := SN; clear SN; (first | (have IN := Lib.hid (ints_later I.out hb); have I := IN; clear IN) | skip); obtain ⟨r0, r1, r2, r3, r4, r5, r6, r7⟩ := M.out.x.cells; clear hb)
                | (go_at_call 20; refine (H20.out _ M.out.H).mono ?_; rintro e wn ⟨⟨A3, k3, rfl, hI⟩, hb⟩; have MN := Lib.hid (M.out.next hb); have BN := Lib.hid (hb0to B.out hb); have M := MN; have B := BN; clear MN BN; have SN := Lib.hid (ints_later S.out hb); have S := SN; clear SN; (first | (have IN := Lib.hid (ints_later I.out hb); have I := IN; clear IN) | skip); obtain ⟨r0, r1, r2, r3, r4, r5, r6, r7⟩ := M.out.x.cells; have I := Lib.hid hI; clear hI; clear hb))
              have HI0 := Lib.hid (ints_made wn wn.heap.size (Nat.le_refl _))
              go_cut [8, 9] (fun s8 s9 wx => s8 = .bool true ∧ s9 = .int .i64 0 ∧ Hid (Below wn.heap.size wn wx))
              case first =>
                go_region_held3 (fun w' => w'.cell? ⟨w.heap.size, 0, none⟩ = some (.slice L.Ak f.h.ks.length L.ck) ∧ w'.cell? ⟨w.heap.size, 1, none⟩ = some (.int .i64 f.h.fl) ∧ w'.cell? ⟨w.heap.size, 2, none⟩ = some (.slice L.Ap f.h.ps.length L.cp) ∧ w'.cell? ⟨w.heap.size, 3, none⟩ = some (.slice L.Ab f.h.bs.length L.cb) ∧ w'.cell? ⟨w.heap.size, 4, none⟩ = some (.slice Ap f.pk.length cp) ∧ w'.cell? ⟨w.heap.size, 5, none⟩ = some (.int .i64 f.day) ∧ w'.cell? ⟨w.heap.size, 6, none⟩ = some (.int .i64 f.nb) ∧ w'.cell? ⟨w.heap.size, 7, none⟩ = some (.slice Aq f.q.length cq)) (first | go_keep)
                  (first
                    | (refine step_copyI (by rfl) (.tmp 40) (.tmp 41) (by rfl) wn.heap.size _ [] (by rfl) (show Ints (wn.alloc (.cells #[] 3)).drew wn.heap.size _ [] from HI0.out) A c l HA.out (by rfl) (ints_later S.out (al_below wn (.cells #[] 3)).drew) (by simp) (by omega) (by simp) ?_; intro v4 w4 h1 h2; have B4 := Lib.hid ((al_below wn (.cells #[] 3)).drew.trans h2); obtain ⟨A4, c4', rfl, -, -, hA4⟩ := (show Ints w4 wn.heap.size v4 l from h1).lay; have I4 := Lib.hid hA4.at_; have M4 := Lib.hid (M.out.next B4.out); obtain ⟨u0, u1, u2, u3, u4, u5, u6, u7⟩ := M4.out.x.cells; clear h1 h2 hA4)
                    | (go_at_call 50; refine (H50.out A4 c4' w4 M4.out.H I4.out).mono ?_; rintro e w5 ⟨rfl, hb⟩; have B5 := Lib.hid (hb0to B4.out hb); have M5 := Lib.hid (M4.out.next hb); obtain ⟨v0, v1, v2, v3, v4, v5, v6, v7⟩ := M5.out.x.cells; clear hb))
                all_goals
                  go_wp2_with (fail)
                  go_meet
                  exact ⟨rfl, rfl, B5⟩
              case rest =>
                obtain ⟨rfl, rfl, hb⟩ := hcut
                obtain ⟨wx, rfl⟩ : ∃ x : World, x = wc := ⟨_, rfl⟩
                have MN := Lib.hid (M.out.next hb.out)
                have BN := Lib.hid (hb0to B.out hb.out)
                have SN := Lib.hid (ints_later S.out hb.out)
                have IN := Lib.hid (ints_later I.out hb.out)
                have M := MN
                have B := BN
                have S := SN
                have I := IN
                clear MN BN SN IN H16 H56 H25 H20 H50 hb r0 r1 r2 r3 r4 r5 r6 r7
                obtain ⟨r0, r1, r2, r3, r4, r5, r6, r7⟩ := M.out.x.cells
                go_wp2_with (first
                  | (go_at_call 57; refine (H57.out A3 k3 _ M.out.H I.out).mono ?_; rintro e wn ⟨rfl, hb⟩; have MN := Lib.hid (M.out.next hb); have BN := Lib.hid (hb0to B.out hb); have M := MN; have B := BN; clear MN BN; have SN := Lib.hid (ints_later S.out hb); have S := SN; clear SN; (first | (have IN := Lib.hid (ints_later I.out hb); have I := IN; clear IN) | skip); obtain ⟨r0, r1, r2, r3, r4, r5, r6, r7⟩ := M.out.x.cells; clear H57; clear hb)
                  | (go_at_call 57; refine (HS57.out _ M.out.H S.out).mono ?_; rintro e wn ⟨rfl, hb⟩; have MN := Lib.hid (M.out.next hb); have BN := Lib.hid (hb0to B.out hb); have M := MN; have B := BN; clear MN BN; have SN := Lib.hid (ints_later S.out hb); have S := SN; clear SN; (first | (have IN := Lib.hid (ints_later I.out hb); have I := IN; clear IN) | skip); obtain ⟨r0, r1, r2, r3, r4, r5, r6, r7⟩ := M.out.x.cells; clear hb)
                  | (go_at_call 58; refine (H58.out A3 k3 _ S.out I.out).mono ?_; rintro e wn ⟨rfl, hb⟩; have MN := Lib.hid (M.out.next hb); have BN := Lib.hid (hb0to B.out hb); have M := MN; have B := BN; clear MN BN; have SN := Lib.hid (ints_later S.out hb); have S := SN; clear SN; (first | (have IN := Lib.hid (ints_later I.out hb); have I := IN; clear IN) | skip); obtain ⟨r0, r1, r2, r3, r4, r5, r6, r7⟩ := M.out.x.cells; clear hb))
                clear r0 r1 r2 r3 r4 r5 r6 r7
                go_loopw [12] (fun i wr => ∃ k : Nat, k ≤ f.q.length ∧ i = .int .i64 k ∧ Hid (FIn wr w.heap.size ⟨L, Ap, cp, Aq, cq⟩ f) ∧ Hid (IntsAt wr wr.heap.size A3 (intsN wl)) ∧ Hid (IntsAt wr wr.heap.size A l) ∧ Hid (Below W0.heap.size W0 wr)) (fun i _ => f.q.length - (intOf i).toNat)
                case atStart => exact ⟨0, Nat.zero_le _, rfl, M, I, S, B⟩
                case round =>
                  obtain ⟨k, hk, rfl, M, I, S, B⟩ := hrel
                  obtain ⟨r0, r1, r2, r3, r4, r5, r6, r7⟩ := M.out.x.cells
                  by_cases hlt : k < f.q.length
                  · have X36 := Lib.hid (fun W hW => H36.out k hlt W hW)
                    have X24 := Lib.hid (fun A c W hI => H24.out (k : Int) A c W hI)
                    have XS24 := Lib.hid (fun W hI => HS24.out (k : Int) W hI)
                    have hkb := wonN_in (withV f.q (rdF f) k) (outV f.q (rdF f) k)
                    have hew := HEW.out k hlt
                    generalize wonN (withV f.q (rdF f) k) (outV f.q (rdF f) k) = kw at X36 hkb hew
                    obtain ⟨bi, hbi⟩ : ∃ bi, decide ((k : Int) ∈ intsN wl) = bi := ⟨_, rfl⟩
                    obtain ⟨bs, hbs⟩ : ∃ bs, decide ((k : Int) ∈ l) = bs := ⟨_, rfl⟩
                    rw [hbi] at X24 hew
                    rw [hbs] at XS24
                    have hin : inR kw 1 3 = true := inR_true.2 hkb
                    clear hbi hbs
                    rcases (show kw = 1 ∨ kw = 2 ∨ kw = 3 by omega) with rfl | rfl | rfl
                    · obtain rfl : bi = true := hew.1 rfl
                      clear hew hkb
                      go_wp2_with (first
                        | (go_at_call 36; refine (X36.out wr M.out.H).mono ?_; rintro e w5 ⟨rfl, hb⟩; have B5 := Lib.hid (hb0to B.out hb); have M5 := Lib.hid (M.out.next hb); have I5 := Lib.hid (ints_later I.out hb); have S5 := Lib.hid (ints_later S.out hb); obtain ⟨r0, r1, r2, r3, r4, r5, r6, r7⟩ := M5.out.x.cells; clear hb)
                        | (go_at_call 18; refine (within1_any _ _ _ _).mono ?_; rintro e w' ⟨rfl, rfl⟩)
                        | (go_at_call 24; refine (X24.out A3 k3 w5 I5.out).mono ?_; rintro e w6 ⟨rfl, hb⟩; have B6 := Lib.hid (hb0to B5.out hb); have M6 := Lib.hid (M5.out.next hb); have I6 := Lib.hid (ints_later I5.out hb); have S6 := Lib.hid (ints_later S5.out hb); clear hb I5 S5)
                        | (go_at_call 24; refine (XS24.out w6 S6.out).mono ?_; rintro e w7 ⟨rfl, hb⟩; have B7 := Lib.hid (hb0to B6.out hb); have M7 := Lib.hid (M6.out.next hb); have I7 := Lib.hid (ints_later I6.out hb); have S7 := Lib.hid (ints_later S6.out hb); clear hb))
                      go_roundw
                      case rel => first | exact ⟨k + 1, by omega, by go_num, M7, I7, S7, B7⟩ | exact ⟨k + 1, by omega, by go_num, M6, I6, S6, B6⟩
                      case measure => simp [intOf]; omega

                    · obtain rfl : bi = false := hew.2 rfl
                      clear hew hkb
                      go_wp2_with (first
                        | (go_at_call 36; refine (X36.out wr M.out.H).mono ?_; rintro e w5 ⟨rfl, hb⟩; have B5 := Lib.hid (hb0to B.out hb); have M5 := Lib.hid (M.out.next hb); have I5 := Lib.hid (ints_later I.out hb); have S5 := Lib.hid (ints_later S.out hb); obtain ⟨r0, r1, r2, r3, r4, r5, r6, r7⟩ := M5.out.x.cells; clear hb)
                        | (go_at_call 18; refine (within1_any _ _ _ _).mono ?_; rintro e w' ⟨rfl, rfl⟩)
                        | (go_at_call 24; refine (X24.out A3 k3 w5 I5.out).mono ?_; rintro e w6 ⟨rfl, hb⟩; have B6 := Lib.hid (hb0to B5.out hb); have M6 := Lib.hid (M5.out.next hb); have I6 := Lib.hid (ints_later I5.out hb); have S6 := Lib.hid (ints_later S5.out hb); clear hb I5 S5)
                        | (go_at_call 24; refine (XS24.out w6 S6.out).mono ?_; rintro e w7 ⟨rfl, hb⟩; have B7 := Lib.hid (hb0to B6.out hb); have M7 := Lib.hid (M6.out.next hb); have I7 := Lib.hid (ints_later I6.out hb); have S7 := Lib.hid (ints_later S6.out hb); clear hb))
                      go_roundw
                      case rel => first | exact ⟨k + 1, by omega, by go_num, M7, I7, S7, B7⟩ | exact ⟨k + 1, by omega, by go_num, M6, I6, S6, B6⟩
                      case measure => simp [intOf]; omega

                    · clear hew hkb
                      go_wp2_with (first
                        | (go_at_call 36; refine (X36.out wr M.out.H).mono ?_; rintro e w5 ⟨rfl, hb⟩; have B5 := Lib.hid (hb0to B.out hb); have M5 := Lib.hid (M.out.next hb); have I5 := Lib.hid (ints_later I.out hb); have S5 := Lib.hid (ints_later S.out hb); obtain ⟨r0, r1, r2, r3, r4, r5, r6, r7⟩ := M5.out.x.cells; clear hb)
                        | (go_at_call 18; refine (within1_any _ _ _ _).mono ?_; rintro e w' ⟨rfl, rfl⟩)
                        | (go_at_call 24; refine (X24.out A3 k3 w5 I5.out).mono ?_; rintro e w6 ⟨rfl, hb⟩; have B6 := Lib.hid (hb0to B5.out hb); have M6 := Lib.hid (M5.out.next hb); have I6 := Lib.hid (ints_later I5.out hb); have S6 := Lib.hid (ints_later S5.out hb); clear hb I5 S5)
                        | (go_at_call 24; refine (XS24.out w6 S6.out).mono ?_; rintro e w7 ⟨rfl, hb⟩; have B7 := Lib.hid (hb0to B6.out hb); have M7 := Lib.hid (M6.out.next hb); have I7 := Lib.hid (ints_later I6.out hb); have S7 := Lib.hid (ints_later S6.out hb); clear hb))
                      go_roundw
                      case rel => first | exact ⟨k + 1, by omega, by go_num, M7, I7, S7, B7⟩ | exact ⟨k + 1, by omega, by go_num, M6, I6, S6, B6⟩
                      case measure => simp [intOf]; omega

                  · obtain rfl : k = f.q.length := by omega
                    go_wp2_with (go_at_call 19; refine (works_any _).mono ?_; rintro e w9 ⟨rfl, hb⟩; have B9 := Lib.hid (hb0to B.out hb); clear hb)
                    go_ret
                    exact ⟨rfl, hb0to HBW.out B9.out⟩

          · have e3 : decide ((l.length : Int) < (wl.length : Int)) = false := decide_eq_false (by omega); have e5 : decide (l.length < wl.length) = false := decide_eq_false (by omega)
            have e4 : ((l.length : Int) == (wl.length : Int)) = false := beq_eq_false_iff_ne.2 (by omega); have e6 : (l.length == wl.length) = false := beq_eq_false_iff_ne.2 (by omega); have e7 : decide (l.length = wl.length) = false := decide_eq_false (by omega)
            clear hlo hq
            as_aux_lemma =>
              go_enter Try.func13, Try.ntmps13
              go_upto_region 1 with (fail)
              have e := HW0.out
              rw [e]
              clear e
              go_upto_region 5 with (first
                | (go_at_call 16; refine (H16.out _ M.out.H).mono ?_; rintro e wn ⟨rfl, hb⟩; have MN := Lib.hid (M.out.next hb); have BN := Lib.hid (hb0to B.out hb); have M := MN; have B := BN; clear MN BN; have SN := Lib.hid (ints_later S.out hb); have S := SN; clear SN; (first | (have IN := Lib.hid (ints_later I.out hb); have I := IN; clear IN) | skip); obtain ⟨r0, r1, r2, r3, r4, r5, r6, r7⟩ := M.out.x.cells; clear hb)
                | (go_at_call 56; refine (H56.out _ M.out.H S.out).mono ?_; rintro e wn ⟨rfl, hb⟩; have MN := Lib.hid (M.out.next hb); have BN := Lib.hid (hb0to B.out hb); have M := MN; have B := BN; clear MN BN; have SN := Lib.hid (ints_later S.out hb); have S := SN; clear SN; (first | (have IN := Lib.hid (ints_later I.out hb); have I := IN; clear IN) | skip); obtain ⟨r0, r1, r2, r3, r4, r5, r6, r7⟩ := M.out.x.cells; clear hb)
                | (go_at_call 25; refine (H25.out _ M.out.H).mono ?_; rintro e wn ⟨rfl, hb⟩; have MN := Lib.hid (M.out.next hb); have BN := Lib.hid (hb0to B.out hb); have M := MN; have B := BN; clear MN BN; have SN := Lib.hid (ints_later S.out hb); have S := SN; clear SN; (first | (have IN := Lib.hid (ints_later I.out hb); have I := IN; clear IN) | skip); obtain ⟨r0, r1, r2, r3, r4, r5, r6, r7⟩ := M.out.x.cells; clear hb)
                | (go_at_call 20; refine (H20.out _ M.out.H).mono ?_; rintro e wn ⟨⟨A3, k3, rfl, hI⟩, hb⟩; have MN := Lib.hid (M.out.next hb); have BN := Lib.hid (hb0to B.out hb); have M := MN; have B := BN; clear MN BN; have SN := Lib.hid (ints_later S.out hb); have S := SN; clear SN; (first | (have IN := Lib.hid (ints_later I.out hb); have I := IN; clear IN) | skip); obtain ⟨r0, r1, r2, r3, r4, r5, r6, r7⟩ := M.out.x.cells; have I := Lib.hid hI; clear hI; clear hb))
              have HI0 := Lib.hid (ints_made wn wn.heap.size (Nat.le_refl _))
              go_cut [8, 9] (fun s8 s9 wx => s8 = .bool true ∧ s9 = .int .i64 0 ∧ Hid (Below wn.heap.size wn wx))
              case first =>
                go_region_held3 (fun w' => w'.cell? ⟨w.heap.size, 0, none⟩ = some (.slice L.Ak f.h.ks.length L.ck) ∧ w'.cell? ⟨w.heap.size, 1, none⟩ = some (.int .i64 f.h.fl) ∧ w'.cell? ⟨w.heap.size, 2, none⟩ = some (.slice L.Ap f.h.ps.length L.cp) ∧ w'.cell? ⟨w.heap.size, 3, none⟩ = some (.slice L.Ab f.h.bs.length L.cb) ∧ w'.cell? ⟨w.heap.size, 4, none⟩ = some (.slice Ap f.pk.length cp) ∧ w'.cell? ⟨w.heap.size, 5, none⟩ = some (.int .i64 f.day) ∧ w'.cell? ⟨w.heap.size, 6, none⟩ = some (.int .i64 f.nb) ∧ w'.cell? ⟨w.heap.size, 7, none⟩ = some (.slice Aq f.q.length cq)) (first | go_keep)
                  (first
                    | (refine step_copyI (by rfl) (.tmp 40) (.tmp 41) (by rfl) wn.heap.size _ [] (by rfl) (show Ints (wn.alloc (.cells #[] 3)).drew wn.heap.size _ [] from HI0.out) A c l HA.out (by rfl) (ints_later S.out (al_below wn (.cells #[] 3)).drew) (by simp) (by omega) (by simp) ?_; intro v4 w4 h1 h2; have B4 := Lib.hid ((al_below wn (.cells #[] 3)).drew.trans h2); obtain ⟨A4, c4', rfl, -, -, hA4⟩ := (show Ints w4 wn.heap.size v4 l from h1).lay; have I4 := Lib.hid hA4.at_; have M4 := Lib.hid (M.out.next B4.out); obtain ⟨u0, u1, u2, u3, u4, u5, u6, u7⟩ := M4.out.x.cells; clear h1 h2 hA4)
                    | (go_at_call 50; refine (H50.out A4 c4' w4 M4.out.H I4.out).mono ?_; rintro e w5 ⟨rfl, hb⟩; have B5 := Lib.hid (hb0to B4.out hb); have M5 := Lib.hid (M4.out.next hb); obtain ⟨v0, v1, v2, v3, v4, v5, v6, v7⟩ := M5.out.x.cells; clear hb))
                all_goals
                  go_wp2_with (fail)
                  go_meet
                  exact ⟨rfl, rfl, B5⟩
              case rest =>
                obtain ⟨rfl, rfl, hb⟩ := hcut
                obtain ⟨wx, rfl⟩ : ∃ x : World, x = wc := ⟨_, rfl⟩
                have MN := Lib.hid (M.out.next hb.out)
                have BN := Lib.hid (hb0to B.out hb.out)
                have SN := Lib.hid (ints_later S.out hb.out)
                have IN := Lib.hid (ints_later I.out hb.out)
                have M := MN
                have B := BN
                have S := SN
                have I := IN
                clear MN BN SN IN H16 H56 H25 H20 H50 hb r0 r1 r2 r3 r4 r5 r6 r7
                obtain ⟨r0, r1, r2, r3, r4, r5, r6, r7⟩ := M.out.x.cells
                go_wp2_with (first
                  | (go_at_call 57; refine (H57.out A3 k3 _ M.out.H I.out).mono ?_; rintro e wn ⟨rfl, hb⟩; have MN := Lib.hid (M.out.next hb); have BN := Lib.hid (hb0to B.out hb); have M := MN; have B := BN; clear MN BN; have SN := Lib.hid (ints_later S.out hb); have S := SN; clear SN; (first | (have IN := Lib.hid (ints_later I.out hb); have I := IN; clear IN) | skip); obtain ⟨r0, r1, r2, r3, r4, r5, r6, r7⟩ := M.out.x.cells; clear H57; clear hb)
                  | (go_at_call 57; refine (HS57.out _ M.out.H S.out).mono ?_; rintro e wn ⟨rfl, hb⟩; have MN := Lib.hid (M.out.next hb); have BN := Lib.hid (hb0to B.out hb); have M := MN; have B := BN; clear MN BN; have SN := Lib.hid (ints_later S.out hb); have S := SN; clear SN; (first | (have IN := Lib.hid (ints_later I.out hb); have I := IN; clear IN) | skip); obtain ⟨r0, r1, r2, r3, r4, r5, r6, r7⟩ := M.out.x.cells; clear hb))
                clear r0 r1 r2 r3 r4 r5 r6 r7
                go_loopw [12] (fun i wr => ∃ k : Nat, k ≤ f.q.length ∧ i = .int .i64 k ∧ Hid (FIn wr w.heap.size ⟨L, Ap, cp, Aq, cq⟩ f) ∧ Hid (IntsAt wr wr.heap.size A3 (intsN wl)) ∧ Hid (IntsAt wr wr.heap.size A l) ∧ Hid (Below W0.heap.size W0 wr)) (fun i _ => f.q.length - (intOf i).toNat)
                case atStart => exact ⟨0, Nat.zero_le _, rfl, M, I, S, B⟩
                case round =>
                  obtain ⟨k, hk, rfl, M, I, S, B⟩ := hrel
                  obtain ⟨r0, r1, r2, r3, r4, r5, r6, r7⟩ := M.out.x.cells
                  by_cases hlt : k < f.q.length
                  · have X36 := Lib.hid (fun W hW => H36.out k hlt W hW)
                    have X24 := Lib.hid (fun A c W hI => H24.out (k : Int) A c W hI)
                    have XS24 := Lib.hid (fun W hI => HS24.out (k : Int) W hI)
                    have hkb := wonN_in (withV f.q (rdF f) k) (outV f.q (rdF f) k)
                    have hew := HEW.out k hlt
                    generalize wonN (withV f.q (rdF f) k) (outV f.q (rdF f) k) = kw at X36 hkb hew
                    obtain ⟨bi, hbi⟩ : ∃ bi, decide ((k : Int) ∈ intsN wl) = bi := ⟨_, rfl⟩
                    obtain ⟨bs, hbs⟩ : ∃ bs, decide ((k : Int) ∈ l) = bs := ⟨_, rfl⟩
                    rw [hbi] at X24 hew
                    rw [hbs] at XS24
                    have hin : inR kw 1 3 = true := inR_true.2 hkb
                    clear hbi hbs
                    rcases (show kw = 1 ∨ kw = 2 ∨ kw = 3 by omega) with rfl | rfl | rfl
                    · obtain rfl : bi = true := hew.1 rfl
                      clear hew hkb
                      go_wp2_with (first
                        | (go_at_call 36; refine (X36.out wr M.out.H).mono ?_; rintro e w5 ⟨rfl, hb⟩; have B5 := Lib.hid (hb0to B.out hb); have M5 := Lib.hid (M.out.next hb); have I5 := Lib.hid (ints_later I.out hb); have S5 := Lib.hid (ints_later S.out hb); obtain ⟨r0, r1, r2, r3, r4, r5, r6, r7⟩ := M5.out.x.cells; clear hb)
                        | (go_at_call 18; refine (within1_any _ _ _ _).mono ?_; rintro e w' ⟨rfl, rfl⟩)
                        | (go_at_call 24; refine (X24.out A3 k3 w5 I5.out).mono ?_; rintro e w6 ⟨rfl, hb⟩; have B6 := Lib.hid (hb0to B5.out hb); have M6 := Lib.hid (M5.out.next hb); have I6 := Lib.hid (ints_later I5.out hb); have S6 := Lib.hid (ints_later S5.out hb); clear hb I5 S5)
                        | (go_at_call 24; refine (XS24.out w6 S6.out).mono ?_; rintro e w7 ⟨rfl, hb⟩; have B7 := Lib.hid (hb0to B6.out hb); have M7 := Lib.hid (M6.out.next hb); have I7 := Lib.hid (ints_later I6.out hb); have S7 := Lib.hid (ints_later S6.out hb); clear hb))
                      go_roundw
                      case rel => first | exact ⟨k + 1, by omega, by go_num, M7, I7, S7, B7⟩ | exact ⟨k + 1, by omega, by go_num, M6, I6, S6, B6⟩
                      case measure => simp [intOf]; omega

                    · obtain rfl : bi = false := hew.2 rfl
                      clear hew hkb
                      go_wp2_with (first
                        | (go_at_call 36; refine (X36.out wr M.out.H).mono ?_; rintro e w5 ⟨rfl, hb⟩; have B5 := Lib.hid (hb0to B.out hb); have M5 := Lib.hid (M.out.next hb); have I5 := Lib.hid (ints_later I.out hb); have S5 := Lib.hid (ints_later S.out hb); obtain ⟨r0, r1, r2, r3, r4, r5, r6, r7⟩ := M5.out.x.cells; clear hb)
                        | (go_at_call 18; refine (within1_any _ _ _ _).mono ?_; rintro e w' ⟨rfl, rfl⟩)
                        | (go_at_call 24; refine (X24.out A3 k3 w5 I5.out).mono ?_; rintro e w6 ⟨rfl, hb⟩; have B6 := Lib.hid (hb0to B5.out hb); have M6 := Lib.hid (M5.out.next hb); have I6 := Lib.hid (ints_later I5.out hb); have S6 := Lib.hid (ints_later S5.out hb); clear hb I5 S5)
                        | (go_at_call 24; refine (XS24.out w6 S6.out).mono ?_; rintro e w7 ⟨rfl, hb⟩; have B7 := Lib.hid (hb0to B6.out hb); have M7 := Lib.hid (M6.out.next hb); have I7 := Lib.hid (ints_later I6.out hb); have S7 := Lib.hid (ints_later S6.out hb); clear hb))
                      go_roundw
                      case rel => first | exact ⟨k + 1, by omega, by go_num, M7, I7, S7, B7⟩ | exact ⟨k + 1, by omega, by go_num, M6, I6, S6, B6⟩
                      case measure => simp [intOf]; omega

                    · clear hew hkb
                      go_wp2_with (first
                        | (go_at_call 36; refine (X36.out wr M.out.H).mono ?_; rintro e w5 ⟨rfl, hb⟩; have B5 := Lib.hid (hb0to B.out hb); have M5 := Lib.hid (M.out.next hb); have I5 := Lib.hid (ints_later I.out hb); have S5 := Lib.hid (ints_later S.out hb); obtain ⟨r0, r1, r2, r3, r4, r5, r6, r7⟩ := M5.out.x.cells; clear hb)
                        | (go_at_call 18; refine (within1_any _ _ _ _).mono ?_; rintro e w' ⟨rfl, rfl⟩)
                        | (go_at_call 24; refine (X24.out A3 k3 w5 I5.out).mono ?_; rintro e w6 ⟨rfl, hb⟩; have B6 := Lib.hid (hb0to B5.out hb); have M6 := Lib.hid (M5.out.next hb); have I6 := Lib.hid (ints_later I5.out hb); have S6 := Lib.hid (ints_later S5.out hb); clear hb I5 S5)
                        | (go_at_call 24; refine (XS24.out w6 S6.out).mono ?_; rintro e w7 ⟨rfl, hb⟩; have B7 := Lib.hid (hb0to B6.out hb); have M7 := Lib.hid (M6.out.next hb); have I7 := Lib.hid (ints_later I6.out hb); have S7 := Lib.hid (ints_later S6.out hb); clear hb))
                      go_roundw
                      case rel => first | exact ⟨k + 1, by omega, by go_num, M7, I7, S7, B7⟩ | exact ⟨k + 1, by omega, by go_num, M6, I6, S6, B6⟩
                      case measure => simp [intOf]; omega

                  · obtain rfl : k = f.q.length := by omega
                    go_wp2_with (go_at_call 19; refine (works_any _).mono ?_; rintro e w9 ⟨rfl, hb⟩; have B9 := Lib.hid (hb0to B.out hb); clear hb)
                    go_ret
                    exact ⟨rfl, hb0to HBW.out B9.out⟩

        · have e1 : decide (own < own) = false := decide_eq_false (by omega)
          have e2 : (own == own) = true := beq_iff_eq.2 rfl
          have HEX := HES rfl
          clear HES
          have HES := HEX
          clear HEX
          have e3 : decide ((l.length : Int) < (wl.length : Int)) = false := decide_eq_false (by omega); have e5 : decide (l.length < wl.length) = false := decide_eq_false (by omega)
          rcases hlo with hq | ⟨hq, rfl⟩
          · have e4 : ((l.length : Int) == (wl.length : Int)) = false := beq_eq_false_iff_ne.2 (by omega); have e6 : (l.length == wl.length) = false := beq_eq_false_iff_ne.2 (by omega); have e7 : decide (l.length = wl.length) = false := decide_eq_false (by omega)
            clear hq
            as_aux_lemma =>
              go_enter Try.func13, Try.ntmps13
              go_upto_region 1 with (fail)
              have e := HW0.out
              rw [e]
              clear e
              go_upto_region 5 with (first
                | (go_at_call 16; refine (H16.out _ M.out.H).mono ?_; rintro e wn ⟨rfl, hb⟩; have MN := Lib.hid (M.out.next hb); have BN := Lib.hid (hb0to B.out hb); have M := MN; have B := BN; clear MN BN; have SN := Lib.hid (ints_later S.out hb); have S := SN; clear SN; (first | (have IN := Lib.hid (ints_later I.out hb); have I := IN; clear IN) | skip); obtain ⟨r0, r1, r2, r3, r4, r5, r6, r7⟩ := M.out.x.cells; clear hb)
                | (go_at_call 56; refine (H56.out _ M.out.H S.out).mono ?_; rintro e wn ⟨rfl, hb⟩; have MN := Lib.hid (M.out.next hb); have BN := Lib.hid (hb0to B.out hb); have M := MN; have B := BN; clear MN BN; have SN := Lib.hid (ints_later S.out hb); have S := SN; clear SN; (first | (have IN := Lib.hid (ints_later I.out hb); have I := IN; clear IN) | skip); obtain ⟨r0, r1, r2, r3, r4, r5, r6, r7⟩ := M.out.x.cells; clear hb)
                | (go_at_call 25; refine (H25.out _ M.out.H).mono ?_; rintro e wn ⟨rfl, hb⟩; have MN := Lib.hid (M.out.next hb); have BN := Lib.hid (hb0to B.out hb); have M := MN; have B := BN; clear MN BN; have SN := Lib.hid (ints_later S.out hb); have S := SN; clear SN; (first | (have IN := Lib.hid (ints_later I.out hb); have I := IN; clear IN) | skip); obtain ⟨r0, r1, r2, r3, r4, r5, r6, r7⟩ := M.out.x.cells; clear hb)
                | (go_at_call 20; refine (H20.out _ M.out.H).mono ?_; rintro e wn ⟨⟨A3, k3, rfl, hI⟩, hb⟩; have MN := Lib.hid (M.out.next hb); have BN := Lib.hid (hb0to B.out hb); have M := MN; have B := BN; clear MN BN; have SN := Lib.hid (ints_later S.out hb); have S := SN; clear SN; (first | (have IN := Lib.hid (ints_later I.out hb); have I := IN; clear IN) | skip); obtain ⟨r0, r1, r2, r3, r4, r5, r6, r7⟩ := M.out.x.cells; have I := Lib.hid hI; clear hI; clear hb))
              have HI0 := Lib.hid (ints_made wn wn.heap.size (Nat.le_refl _))
              go_cut [8, 9] (fun s8 s9 wx => s8 = .bool true ∧ s9 = .int .i64 0 ∧ Hid (Below wn.heap.size wn wx))
              case first =>
                go_region_held3 (fun w' => w'.cell? ⟨w.heap.size, 0, none⟩ = some (.slice L.Ak f.h.ks.length L.ck) ∧ w'.cell? ⟨w.heap.size, 1, none⟩ = some (.int .i64 f.h.fl) ∧ w'.cell? ⟨w.heap.size, 2, none⟩ = some (.slice L.Ap f.h.ps.length L.cp) ∧ w'.cell? ⟨w.heap.size, 3, none⟩ = some (.slice L.Ab f.h.bs.length L.cb) ∧ w'.cell? ⟨w.heap.size, 4, none⟩ = some (.slice Ap f.pk.length cp) ∧ w'.cell? ⟨w.heap.size, 5, none⟩ = some (.int .i64 f.day) ∧ w'.cell? ⟨w.heap.size, 6, none⟩ = some (.int .i64 f.nb) ∧ w'.cell? ⟨w.heap.size, 7, none⟩ = some (.slice Aq f.q.length cq)) (first | go_keep)
                  (first
                    | (refine step_copyI (by rfl) (.tmp 40) (.tmp 41) (by rfl) wn.heap.size _ [] (by rfl) (show Ints (wn.alloc (.cells #[] 3)).drew wn.heap.size _ [] from HI0.out) A c l HA.out (by rfl) (ints_later S.out (al_below wn (.cells #[] 3)).drew) (by simp) (by omega) (by simp) ?_; intro v4 w4 h1 h2; have B4 := Lib.hid ((al_below wn (.cells #[] 3)).drew.trans h2); obtain ⟨A4, c4', rfl, -, -, hA4⟩ := (show Ints w4 wn.heap.size v4 l from h1).lay; have I4 := Lib.hid hA4.at_; have M4 := Lib.hid (M.out.next B4.out); obtain ⟨u0, u1, u2, u3, u4, u5, u6, u7⟩ := M4.out.x.cells; clear h1 h2 hA4)
                    | (go_at_call 50; refine (H50.out A4 c4' w4 M4.out.H I4.out).mono ?_; rintro e w5 ⟨rfl, hb⟩; have B5 := Lib.hid (hb0to B4.out hb); have M5 := Lib.hid (M4.out.next hb); obtain ⟨v0, v1, v2, v3, v4, v5, v6, v7⟩ := M5.out.x.cells; clear hb))
                all_goals
                  go_wp2_with (fail)
                  go_meet
                  exact ⟨rfl, rfl, B5⟩
              case rest =>
                obtain ⟨rfl, rfl, hb⟩ := hcut
                obtain ⟨wx, rfl⟩ : ∃ x : World, x = wc := ⟨_, rfl⟩
                have MN := Lib.hid (M.out.next hb.out)
                have BN := Lib.hid (hb0to B.out hb.out)
                have SN := Lib.hid (ints_later S.out hb.out)
                have IN := Lib.hid (ints_later I.out hb.out)
                have M := MN
                have B := BN
                have S := SN
                have I := IN
                clear MN BN SN IN H16 H56 H25 H20 H50 hb r0 r1 r2 r3 r4 r5 r6 r7
                obtain ⟨r0, r1, r2, r3, r4, r5, r6, r7⟩ := M.out.x.cells
                go_wp2_with (first
                  | (go_at_call 57; refine (H57.out A3 k3 _ M.out.H I.out).mono ?_; rintro e wn ⟨rfl, hb⟩; have MN := Lib.hid (M.out.next hb); have BN := Lib.hid (hb0to B.out hb); have M := MN; have B := BN; clear MN BN; have SN := Lib.hid (ints_later S.out hb); have S := SN; clear SN; (first | (have IN := Lib.hid (ints_later I.out hb); have I := IN; clear IN) | skip); obtain ⟨r0, r1, r2, r3, r4, r5, r6, r7⟩ := M.out.x.cells; clear H57; clear hb)
                  | (go_at_call 57; refine (HS57.out _ M.out.H S.out).mono ?_; rintro e wn ⟨rfl, hb⟩; have MN := Lib.hid (M.out.next hb); have BN := Lib.hid (hb0to B.out hb); have M := MN; have B := BN; clear MN BN; have SN := Lib.hid (ints_later S.out hb); have S := SN; clear SN; (first | (have IN := Lib.hid (ints_later I.out hb); have I := IN; clear IN) | skip); obtain ⟨r0, r1, r2, r3, r4, r5, r6, r7⟩ := M.out.x.cells; clear hb))
                clear r0 r1 r2 r3 r4 r5 r6 r7
                go_loopw [12] (fun i wr => ∃ k : Nat, k ≤ f.q.length ∧ i = .int .i64 k ∧ Hid (FIn wr w.heap.size ⟨L, Ap, cp, Aq, cq⟩ f) ∧ Hid (IntsAt wr wr.heap.size A3 (intsN wl)) ∧ Hid (IntsAt wr wr.heap.size A l) ∧ Hid (Below W0.heap.size W0 wr)) (fun i _ => f.q.length - (intOf i).toNat)
                case atStart => exact ⟨0, Nat.zero_le _, rfl, M, I, S, B⟩
                case round =>
                  obtain ⟨k, hk, rfl, M, I, S, B⟩ := hrel
                  obtain ⟨r0, r1, r2, r3, r4, r5, r6, r7⟩ := M.out.x.cells
                  by_cases hlt : k < f.q.length
                  · have X36 := Lib.hid (fun W hW => H36.out k hlt W hW)
                    have X24 := Lib.hid (fun A c W hI => H24.out (k : Int) A c W hI)
                    have XS24 := Lib.hid (fun W hI => HS24.out (k : Int) W hI)
                    have hkb := wonN_in (withV f.q (rdF f) k) (outV f.q (rdF f) k)
                    have hew := HEW.out k hlt
                    have hes := HES.out k hlt
                    generalize wonN (withV f.q (rdF f) k) (outV f.q (rdF f) k) = kw at X36 hkb hew hes
                    obtain ⟨bi, hbi⟩ : ∃ bi, decide ((k : Int) ∈ intsN wl) = bi := ⟨_, rfl⟩
                    obtain ⟨bs, hbs⟩ : ∃ bs, decide ((k : Int) ∈ l) = bs := ⟨_, rfl⟩
                    rw [hbi] at X24 hew
                    rw [hbs] at XS24 hes
                    have hin : inR kw 1 3 = true := inR_true.2 hkb
                    clear hbi hbs
                    rcases (show kw = 1 ∨ kw = 2 ∨ kw = 3 by omega) with rfl | rfl | rfl
                    · obtain rfl : bi = true := hew.1 rfl
                      obtain rfl : bs = true := hes.1 rfl
                      clear hew hes hkb
                      go_wp2_with (first
                        | (go_at_call 36; refine (X36.out wr M.out.H).mono ?_; rintro e w5 ⟨rfl, hb⟩; have B5 := Lib.hid (hb0to B.out hb); have M5 := Lib.hid (M.out.next hb); have I5 := Lib.hid (ints_later I.out hb); have S5 := Lib.hid (ints_later S.out hb); obtain ⟨r0, r1, r2, r3, r4, r5, r6, r7⟩ := M5.out.x.cells; clear hb)
                        | (go_at_call 18; refine (within1_any _ _ _ _).mono ?_; rintro e w' ⟨rfl, rfl⟩)
                        | (go_at_call 24; refine (X24.out A3 k3 w5 I5.out).mono ?_; rintro e w6 ⟨rfl, hb⟩; have B6 := Lib.hid (hb0to B5.out hb); have M6 := Lib.hid (M5.out.next hb); have I6 := Lib.hid (ints_later I5.out hb); have S6 := Lib.hid (ints_later S5.out hb); clear hb I5 S5)
                        | (go_at_call 24; refine (XS24.out w6 S6.out).mono ?_; rintro e w7 ⟨rfl, hb⟩; have B7 := Lib.hid (hb0to B6.out hb); have M7 := Lib.hid (M6.out.next hb); have I7 := Lib.hid (ints_later I6.out hb); have S7 := Lib.hid (ints_later S6.out hb); clear hb))
                      go_roundw
                      case rel => first | exact ⟨k + 1, by omega, by go_num, M7, I7, S7, B7⟩ | exact ⟨k + 1, by omega, by go_num, M6, I6, S6, B6⟩
                      case measure => simp [intOf]; omega

                    · obtain rfl : bi = false := hew.2 rfl
                      obtain rfl : bs = false := hes.2 rfl
                      clear hew hes hkb
                      go_wp2_with (first
                        | (go_at_call 36; refine (X36.out wr M.out.H).mono ?_; rintro e w5 ⟨rfl, hb⟩; have B5 := Lib.hid (hb0to B.out hb); have M5 := Lib.hid (M.out.next hb); have I5 := Lib.hid (ints_later I.out hb); have S5 := Lib.hid (ints_later S.out hb); obtain ⟨r0, r1, r2, r3, r4, r5, r6, r7⟩ := M5.out.x.cells; clear hb)
                        | (go_at_call 18; refine (within1_any _ _ _ _).mono ?_; rintro e w' ⟨rfl, rfl⟩)
                        | (go_at_call 24; refine (X24.out A3 k3 w5 I5.out).mono ?_; rintro e w6 ⟨rfl, hb⟩; have B6 := Lib.hid (hb0to B5.out hb); have M6 := Lib.hid (M5.out.next hb); have I6 := Lib.hid (ints_later I5.out hb); have S6 := Lib.hid (ints_later S5.out hb); clear hb I5 S5)
                        | (go_at_call 24; refine (XS24.out w6 S6.out).mono ?_; rintro e w7 ⟨rfl, hb⟩; have B7 := Lib.hid (hb0to B6.out hb); have M7 := Lib.hid (M6.out.next hb); have I7 := Lib.hid (ints_later I6.out hb); have S7 := Lib.hid (ints_later S6.out hb); clear hb))
                      go_roundw
                      case rel => first | exact ⟨k + 1, by omega, by go_num, M7, I7, S7, B7⟩ | exact ⟨k + 1, by omega, by go_num, M6, I6, S6, B6⟩
                      case measure => simp [intOf]; omega

                    · clear hew hes hkb
                      go_wp2_with (first
                        | (go_at_call 36; refine (X36.out wr M.out.H).mono ?_; rintro e w5 ⟨rfl, hb⟩; have B5 := Lib.hid (hb0to B.out hb); have M5 := Lib.hid (M.out.next hb); have I5 := Lib.hid (ints_later I.out hb); have S5 := Lib.hid (ints_later S.out hb); obtain ⟨r0, r1, r2, r3, r4, r5, r6, r7⟩ := M5.out.x.cells; clear hb)
                        | (go_at_call 18; refine (within1_any _ _ _ _).mono ?_; rintro e w' ⟨rfl, rfl⟩)
                        | (go_at_call 24; refine (X24.out A3 k3 w5 I5.out).mono ?_; rintro e w6 ⟨rfl, hb⟩; have B6 := Lib.hid (hb0to B5.out hb); have M6 := Lib.hid (M5.out.next hb); have I6 := Lib.hid (ints_later I5.out hb); have S6 := Lib.hid (ints_later S5.out hb); clear hb I5 S5)
                        | (go_at_call 24; refine (XS24.out w6 S6.out).mono ?_; rintro e w7 ⟨rfl, hb⟩; have B7 := Lib.hid (hb0to B6.out hb); have M7 := Lib.hid (M6.out.next hb); have I7 := Lib.hid (ints_later I6.out hb); have S7 := Lib.hid (ints_later S6.out hb); clear hb))
                      go_roundw
                      case rel => first | exact ⟨k + 1, by omega, by go_num, M7, I7, S7, B7⟩ | exact ⟨k + 1, by omega, by go_num, M6, I6, S6, B6⟩
                      case measure => simp [intOf]; omega

                  · obtain rfl : k = f.q.length := by omega
                    go_wp2_with (go_at_call 19; refine (works_any _).mono ?_; rintro e w9 ⟨rfl, hb⟩; have B9 := Lib.hid (hb0to B.out hb); clear hb)
                    go_ret
                    exact ⟨rfl, hb0to HBW.out B9.out⟩

          · have e4 : ((l.length : Int) == (wl.length : Int)) = true := beq_iff_eq.2 (by omega); have e6 : (l.length == wl.length) = true := beq_iff_eq.2 (by omega); have e7 : decide (l.length = wl.length) = true := decide_eq_true (by omega)
            clear hq
            as_aux_lemma =>
              go_enter Try.func13, Try.ntmps13
              go_upto_region 1 with (fail)
              have e := HW0.out
              rw [e]
              clear e
              go_upto_region 5 with (first
                | (go_at_call 16; refine (H16.out _ M.out.H).mono ?_; rintro e wn ⟨rfl, hb⟩; have MN := Lib.hid (M.out.next hb); have BN := Lib.hid (hb0to B.out hb); have M := MN; have B := BN; clear MN BN; have SN := Lib.hid (ints_later S.out hb); have S := SN; clear SN; (first | (have IN := Lib.hid (ints_later I.out hb); have I := IN; clear IN) | skip); obtain ⟨r0, r1, r2, r3, r4, r5, r6, r7⟩ := M.out.x.cells; clear hb)
                | (go_at_call 56; refine (H56.out _ M.out.H S.out).mono ?_; rintro e wn ⟨rfl, hb⟩; have MN := Lib.hid (M.out.next hb); have BN := Lib.hid (hb0to B.out hb); have M := MN; have B := BN; clear MN BN; have SN := Lib.hid (ints_later S.out hb); have S := SN; clear SN; (first | (have IN := Lib.hid (ints_later I.out hb); have I := IN; clear IN) | skip); obtain ⟨r0, r1, r2, r3, r4, r5, r6, r7⟩ := M.out.x.cells; clear hb)
                | (go_at_call 25; refine (H25.out _ M.out.H).mono ?_; rintro e wn ⟨rfl, hb⟩; have MN := Lib.hid (M.out.next hb); have BN := Lib.hid (hb0to B.out hb); have M := MN; have B := BN; clear MN BN; have SN := Lib.hid (ints_later S.out hb); have S := SN; clear SN; (first | (have IN := Lib.hid (ints_later I.out hb); have I := IN; clear IN) | skip); obtain ⟨r0, r1, r2, r3, r4, r5, r6, r7⟩ := M.out.x.cells; clear hb)
                | (go_at_call 20; refine (H20.out _ M.out.H).mono ?_; rintro e wn ⟨⟨A3, k3, rfl, hI⟩, hb⟩; have MN := Lib.hid (M.out.next hb); have BN := Lib.hid (hb0to B.out hb); have M := MN; have B := BN; clear MN BN; have SN := Lib.hid (ints_later S.out hb); have S := SN; clear SN; (first | (have IN := Lib.hid (ints_later I.out hb); have I := IN; clear IN) | skip); obtain ⟨r0, r1, r2, r3, r4, r5, r6, r7⟩ := M.out.x.cells; have I := Lib.hid hI; clear hI; clear hb))
              have HI0 := Lib.hid (ints_made wn wn.heap.size (Nat.le_refl _))
              go_cut [8, 9] (fun s8 s9 wx => s8 = .bool true ∧ s9 = .int .i64 0 ∧ Hid (Below wn.heap.size wn wx))
              case first =>
                go_region_held3 (fun w' => w'.cell? ⟨w.heap.size, 0, none⟩ = some (.slice L.Ak f.h.ks.length L.ck) ∧ w'.cell? ⟨w.heap.size, 1, none⟩ = some (.int .i64 f.h.fl) ∧ w'.cell? ⟨w.heap.size, 2, none⟩ = some (.slice L.Ap f.h.ps.length L.cp) ∧ w'.cell? ⟨w.heap.size, 3, none⟩ = some (.slice L.Ab f.h.bs.length L.cb) ∧ w'.cell? ⟨w.heap.size, 4, none⟩ = some (.slice Ap f.pk.length cp) ∧ w'.cell? ⟨w.heap.size, 5, none⟩ = some (.int .i64 f.day) ∧ w'.cell? ⟨w.heap.size, 6, none⟩ = some (.int .i64 f.nb) ∧ w'.cell? ⟨w.heap.size, 7, none⟩ = some (.slice Aq f.q.length cq)) (first | go_keep)
                  (first
                    | (refine step_copyI (by rfl) (.tmp 40) (.tmp 41) (by rfl) wn.heap.size _ [] (by rfl) (show Ints (wn.alloc (.cells #[] 3)).drew wn.heap.size _ [] from HI0.out) A c l HA.out (by rfl) (ints_later S.out (al_below wn (.cells #[] 3)).drew) (by simp) (by omega) (by simp) ?_; intro v4 w4 h1 h2; have B4 := Lib.hid ((al_below wn (.cells #[] 3)).drew.trans h2); obtain ⟨A4, c4', rfl, -, -, hA4⟩ := (show Ints w4 wn.heap.size v4 l from h1).lay; have I4 := Lib.hid hA4.at_; have M4 := Lib.hid (M.out.next B4.out); obtain ⟨u0, u1, u2, u3, u4, u5, u6, u7⟩ := M4.out.x.cells; clear h1 h2 hA4)
                    | (go_at_call 50; refine (H50.out A4 c4' w4 M4.out.H I4.out).mono ?_; rintro e w5 ⟨rfl, hb⟩; have B5 := Lib.hid (hb0to B4.out hb); have M5 := Lib.hid (M4.out.next hb); obtain ⟨v0, v1, v2, v3, v4, v5, v6, v7⟩ := M5.out.x.cells; clear hb))
                all_goals
                  go_wp2_with (fail)
                  go_meet
                  exact ⟨rfl, rfl, B5⟩
              case rest =>
                obtain ⟨rfl, rfl, hb⟩ := hcut
                obtain ⟨wx, rfl⟩ : ∃ x : World, x = wc := ⟨_, rfl⟩
                have MN := Lib.hid (M.out.next hb.out)
                have BN := Lib.hid (hb0to B.out hb.out)
                have SN := Lib.hid (ints_later S.out hb.out)
                have IN := Lib.hid (ints_later I.out hb.out)
                have M := MN
                have B := BN
                have S := SN
                have I := IN
                clear MN BN SN IN H16 H56 H25 H20 H50 hb r0 r1 r2 r3 r4 r5 r6 r7
                obtain ⟨r0, r1, r2, r3, r4, r5, r6, r7⟩ := M.out.x.cells
                go_wp2_with (first
                  | (go_at_call 57; refine (H57.out A3 k3 _ M.out.H I.out).mono ?_; rintro e wn ⟨rfl, hb⟩; have MN := Lib.hid (M.out.next hb); have BN := Lib.hid (hb0to B.out hb); have M := MN; have B := BN; clear MN BN; have SN := Lib.hid (ints_later S.out hb); have S := SN; clear SN; (first | (have IN := Lib.hid (ints_later I.out hb); have I := IN; clear IN) | skip); obtain ⟨r0, r1, r2, r3, r4, r5, r6, r7⟩ := M.out.x.cells; clear H57; clear hb)
                  | (go_at_call 57; refine (HS57.out _ M.out.H S.out).mono ?_; rintro e wn ⟨rfl, hb⟩; have MN := Lib.hid (M.out.next hb); have BN := Lib.hid (hb0to B.out hb); have M := MN; have B := BN; clear MN BN; have SN := Lib.hid (ints_later S.out hb); have S := SN; clear SN; (first | (have IN := Lib.hid (ints_later I.out hb); have I := IN; clear IN) | skip); obtain ⟨r0, r1, r2, r3, r4, r5, r6, r7⟩ := M.out.x.cells; clear hb)
                  | (go_at_call 58; refine (H58.out A3 k3 _ S.out I.out).mono ?_; rintro e wn ⟨rfl, hb⟩; have MN := Lib.hid (M.out.next hb); have BN := Lib.hid (hb0to B.out hb); have M := MN; have B := BN; clear MN BN; have SN := Lib.hid (ints_later S.out hb); have S := SN; clear SN; (first | (have IN := Lib.hid (ints_later I.out hb); have I := IN; clear IN) | skip); obtain ⟨r0, r1, r2, r3, r4, r5, r6, r7⟩ := M.out.x.cells; clear hb))
                clear r0 r1 r2 r3 r4 r5 r6 r7
                go_loopw [12] (fun i wr => ∃ k : Nat, k ≤ f.q.length ∧ i = .int .i64 k ∧ Hid (FIn wr w.heap.size ⟨L, Ap, cp, Aq, cq⟩ f) ∧ Hid (IntsAt wr wr.heap.size A3 (intsN wl)) ∧ Hid (IntsAt wr wr.heap.size A l) ∧ Hid (Below W0.heap.size W0 wr)) (fun i _ => f.q.length - (intOf i).toNat)
                case atStart => exact ⟨0, Nat.zero_le _, rfl, M, I, S, B⟩
                case round =>
                  obtain ⟨k, hk, rfl, M, I, S, B⟩ := hrel
                  obtain ⟨r0, r1, r2, r3, r4, r5, r6, r7⟩ := M.out.x.cells
                  by_cases hlt : k < f.q.length
                  · have X36 := Lib.hid (fun W hW => H36.out k hlt W hW)
                    have X24 := Lib.hid (fun A c W hI => H24.out (k : Int) A c W hI)
                    have XS24 := Lib.hid (fun W hI => HS24.out (k : Int) W hI)
                    have hkb := wonN_in (withV f.q (rdF f) k) (outV f.q (rdF f) k)
                    have hew := HEW.out k hlt
                    have hes := HES.out k hlt
                    generalize wonN (withV f.q (rdF f) k) (outV f.q (rdF f) k) = kw at X36 hkb hew hes
                    obtain ⟨bi, hbi⟩ : ∃ bi, decide ((k : Int) ∈ intsN wl) = bi := ⟨_, rfl⟩
                    obtain ⟨bs, hbs⟩ : ∃ bs, decide ((k : Int) ∈ l) = bs := ⟨_, rfl⟩
                    rw [hbi] at X24 hew
                    rw [hbs] at XS24 hes
                    have hin : inR kw 1 3 = true := inR_true.2 hkb
                    clear hbi hbs
                    rcases (show kw = 1 ∨ kw = 2 ∨ kw = 3 by omega) with rfl | rfl | rfl
                    · obtain rfl : bi = true := hew.1 rfl
                      obtain rfl : bs = true := hes.1 rfl
                      clear hew hes hkb
                      go_wp2_with (first
                        | (go_at_call 36; refine (X36.out wr M.out.H).mono ?_; rintro e w5 ⟨rfl, hb⟩; have B5 := Lib.hid (hb0to B.out hb); have M5 := Lib.hid (M.out.next hb); have I5 := Lib.hid (ints_later I.out hb); have S5 := Lib.hid (ints_later S.out hb); obtain ⟨r0, r1, r2, r3, r4, r5, r6, r7⟩ := M5.out.x.cells; clear hb)
                        | (go_at_call 18; refine (within1_any _ _ _ _).mono ?_; rintro e w' ⟨rfl, rfl⟩)
                        | (go_at_call 24; refine (X24.out A3 k3 w5 I5.out).mono ?_; rintro e w6 ⟨rfl, hb⟩; have B6 := Lib.hid (hb0to B5.out hb); have M6 := Lib.hid (M5.out.next hb); have I6 := Lib.hid (ints_later I5.out hb); have S6 := Lib.hid (ints_later S5.out hb); clear hb I5 S5)
                        | (go_at_call 24; refine (XS24.out w6 S6.out).mono ?_; rintro e w7 ⟨rfl, hb⟩; have B7 := Lib.hid (hb0to B6.out hb); have M7 := Lib.hid (M6.out.next hb); have I7 := Lib.hid (ints_later I6.out hb); have S7 := Lib.hid (ints_later S6.out hb); clear hb))
                      go_roundw
                      case rel => first | exact ⟨k + 1, by omega, by go_num, M7, I7, S7, B7⟩ | exact ⟨k + 1, by omega, by go_num, M6, I6, S6, B6⟩
                      case measure => simp [intOf]; omega

                    · obtain rfl : bi = false := hew.2 rfl
                      obtain rfl : bs = false := hes.2 rfl
                      clear hew hes hkb
                      go_wp2_with (first
                        | (go_at_call 36; refine (X36.out wr M.out.H).mono ?_; rintro e w5 ⟨rfl, hb⟩; have B5 := Lib.hid (hb0to B.out hb); have M5 := Lib.hid (M.out.next hb); have I5 := Lib.hid (ints_later I.out hb); have S5 := Lib.hid (ints_later S.out hb); obtain ⟨r0, r1, r2, r3, r4, r5, r6, r7⟩ := M5.out.x.cells; clear hb)
                        | (go_at_call 18; refine (within1_any _ _ _ _).mono ?_; rintro e w' ⟨rfl, rfl⟩)
                        | (go_at_call 24; refine (X24.out A3 k3 w5 I5.out).mono ?_; rintro e w6 ⟨rfl, hb⟩; have B6 := Lib.hid (hb0to B5.out hb); have M6 := Lib.hid (M5.out.next hb); have I6 := Lib.hid (ints_later I5.out hb); have S6 := Lib.hid (ints_later S5.out hb); clear hb I5 S5)
                        | (go_at_call 24; refine (XS24.out w6 S6.out).mono ?_; rintro e w7 ⟨rfl, hb⟩; have B7 := Lib.hid (hb0to B6.out hb); have M7 := Lib.hid (M6.out.next hb); have I7 := Lib.hid (ints_later I6.out hb); have S7 := Lib.hid (ints_later S6.out hb); clear hb))
                      go_roundw
                      case rel => first | exact ⟨k + 1, by omega, by go_num, M7, I7, S7, B7⟩ | exact ⟨k + 1, by omega, by go_num, M6, I6, S6, B6⟩
                      case measure => simp [intOf]; omega

                    · clear hew hes hkb
                      go_wp2_with (first
                        | (go_at_call 36; refine (X36.out wr M.out.H).mono ?_; rintro e w5 ⟨rfl, hb⟩; have B5 := Lib.hid (hb0to B.out hb); have M5 := Lib.hid (M.out.next hb); have I5 := Lib.hid (ints_later I.out hb); have S5 := Lib.hid (ints_later S.out hb); obtain ⟨r0, r1, r2, r3, r4, r5, r6, r7⟩ := M5.out.x.cells; clear hb)
                        | (go_at_call 18; refine (within1_any _ _ _ _).mono ?_; rintro e w' ⟨rfl, rfl⟩)
                        | (go_at_call 24; refine (X24.out A3 k3 w5 I5.out).mono ?_; rintro e w6 ⟨rfl, hb⟩; have B6 := Lib.hid (hb0to B5.out hb); have M6 := Lib.hid (M5.out.next hb); have I6 := Lib.hid (ints_later I5.out hb); have S6 := Lib.hid (ints_later S5.out hb); clear hb I5 S5)
                        | (go_at_call 24; refine (XS24.out w6 S6.out).mono ?_; rintro e w7 ⟨rfl, hb⟩; have B7 := Lib.hid (hb0to B6.out hb); have M7 := Lib.hid (M6.out.next hb); have I7 := Lib.hid (ints_later I6.out hb); have S7 := Lib.hid (ints_later S6.out hb); clear hb))
                      go_roundw
                      case rel => first | exact ⟨k + 1, by omega, by go_num, M7, I7, S7, B7⟩ | exact ⟨k + 1, by omega, by go_num, M6, I6, S6, B6⟩
                      case measure => simp [intOf]; omega

                  · obtain rfl : k = f.q.length := by omega
                    go_wp2_with (go_at_call 19; refine (works_any _).mono ?_; rintro e w9 ⟨rfl, hb⟩; have B9 := Lib.hid (hb0to B.out hb); clear hb)
                    go_ret
                    exact ⟨rfl, hb0to HBW.out B9.out⟩

end Go.Proofs.Ytmconopnplgcfaa
