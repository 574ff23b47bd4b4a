import Derived.Test.YtmconopnplgcfaaEA
namespace Go.Proofs.Ytmconopnplgcfaa
open Go.RowKit

/-! wonOf 83, Won 44. -/
theorem soN_snoc (q : List Bid) (i : Nat) (n : Int) (S : List (List Nat)) (l : List Nat) : soN q i n (S ++ [l]) = soN q i n S + if bringsL q l = n ∧ i ∈ l then 1 else 0 := by
  unfold soN
  rw [List.filter_append, List.length_append]
  by_cases h : bringsL q l = n ∧ i ∈ l
  · rw [if_pos h]; simp [h.1, h.2]
  · rw [if_neg h]
    have : (decide (bringsL q l = n) && decide (i ∈ l)) = false := by
      by_cases h1 : bringsL q l = n
      · have h2 : ¬ i ∈ l := fun hm => h ⟨h1, hm⟩
        simp [h2]
      · simp [h1]
    simp [this]
theorem allN_snoc (q : List Bid) (n : Int) (S : List (List Nat)) (l : List Nat) : allN q n (S ++ [l]) = allN q n S + if bringsL q l = n then 1 else 0 := by
  unfold allN
  rw [List.filter_append, List.length_append]
  by_cases h : bringsL q l = n
  · rw [if_pos h]; simp [h]
  · rw [if_neg h]; simp [h]
theorem soN_len (q : List Bid) (i : Nat) (n : Int) (S : List (List Nat)) : soN q i n S ≤ S.length := List.length_filter_le _ _
theorem allN_len (q : List Bid) (n : Int) (S : List (List Nat)) : allN q n S ≤ S.length := List.length_filter_le _ _
theorem brings_le99 {q : List Bid} (hq : ∀ b ∈ q, 0 ≤ b.pay ∧ b.pay ≤ 99) : ∀ l : List Nat, bringsL q l ≤ 99 * l.length
  | [] => by rw [brings_nil]; simp
  | i :: l => by
    have ih := brings_le99 hq l
    rw [brings_cons, List.length_cons]
    have hp : payAt q i ≤ 99 := by
      unfold payAt
      cases e : q[i]? with
      | none => simp
      | some b => exact (hq b (List.mem_of_getElem? e)).2
    omega
/-- What Won of a bid is, if all sales are given. -/
def wonS (q : List Bid) (S : List (List Nat)) (i : Nat) : Int := knownN (soN q i (topTo q S) S) (allN q (topTo q S) S)
theorem wonS_eq {f g : Fair} (hf : FOK f) (hg : FOK g) {S : List (List Nat)} (hS : SalesL f.q (rdF f) S) (hl : ∀ l, SaleL g.q (rdF g) l ↔ SaleL f.q (rdF f) l) {i : Nat} (hi : i < g.q.length) : wonS g.q S i = wonN (withV g.q (rdF g) i) (outV g.q (rdF g) i) :=
  known_won (fun l => (hS.mem l).trans (hl l).symm) (withV_is hg.ql hg.pos' hi) (outV_is hg.ql hg.pos' hi) (topTo_is hg.pos' fun l => (hS.mem l).trans (hl l).symm)
theorem sales_small {f : Fair} (hf : FOK f) {S : List (List Nat)} (hS : SalesL f.q (rdF f) S) : ∀ l ∈ S, l.length ≤ 8 ∧ ∀ i ∈ l, i < f.q.length := fun l hl => by
  have h := (hS.mem l).1 hl
  obtain ⟨m, _, e⟩ := bits_all f.q.length hf.ql l h.up fun i hi => h.lt hi
  exact ⟨by rw [← e]; exact Nat.le_trans (bits_len _ _) hf.ql, fun i hi => h.lt hi⟩
set_option maxRecDepth 100000 in
set_option maxHeartbeats 4000000 in
theorem wonOf_any (F : FL) (f : Fair) (hql : f.q.length ≤ 8) (hpay : ∀ b ∈ f.q, 0 ≤ b.pay ∧ b.pay ≤ 99) (S : List (List Nat)) (hS : ∀ l ∈ S, l.length ≤ 8 ∧ ∀ i ∈ l, i < f.q.length) (hSl : S.length ≤ 100000) (A : Option Addr) (c lo : Nat) (i : Nat) (w : World) (hF : FairAt w w.heap.size F f) (hR : RowsIn w lo w.heap.size A (S.map intsN)) :
    Calls Try.prog 83 #[F.enc f, .slice A S.length c, .int .i64 (i : Int)] w fun e w' => e = .returned (.int .i64 (wonS f.q S i)) ∧ Below w.heap.size w w' := by
  have hbw := al_below w (.cells #[.slice F.L.Ak f.h.ks.length F.L.ck, .int .i64 f.h.fl, .slice F.L.Ap f.h.ps.length F.L.cp, .slice F.L.Ab f.h.bs.length F.L.cb, .slice F.Ap f.pk.length F.cp, .int .i64 f.day, .int .i64 f.nb, .slice F.Aq f.q.length F.cq] 29)
  have HB := Lib.hid (FBox.new w F f)
  obtain ⟨c0, c1, c2, c3, c4, c5, c6, c7⟩ := (FBox.new w F f).cells
  obtain ⟨W0, hW0⟩ : ∃ W0, w.alloc (.cells #[.slice F.L.Ak f.h.ks.length F.L.ck, .int .i64 f.h.fl, .slice F.L.Ap f.h.ps.length F.L.cp, .slice F.L.Ab f.h.bs.length F.L.cb, .slice F.Ap f.pk.length F.cp, .int .i64 f.day, .int .i64 f.nb, .slice F.Aq f.q.length F.cq] 29) = W0 := ⟨_, rfl⟩
  rw [hW0] at hbw HB c0 c1 c2 c3 c4 c5 c6 c7
  have HBW := Lib.hid hbw
  have HW0 := Lib.hid hW0
  have HF := Lib.hid (hF.below hbw)
  clear hbw hW0 hF
  have HR := Lib.hid ((hR.below HBW.out (Nat.le_refl _)).keep (Nat.le_refl _) HBW.out.size fun _ _ _ _ => rfl)
  have HS := Lib.hid hS
  have HPAY := Lib.hid hpay
  have HPOS := Lib.hid (fun b hb => (hpay b hb).1)
  have HBL := Lib.hid (fun (l : List Nat) (h : l.length ≤ 8) => (by have := brings_le99 hpay l; omega : bringsL f.q l ≤ 792))
  have HT0 := Lib.hid (fun S => (topTo_ge f.q S).1)
  clear hR hS hpay
  obtain ⟨L, Ap, cp, Aq, cq⟩ := F
  go_enter Try.func83, Try.ntmps83
  go_upto_region 1 with (fail)
  have e := HW0.out
  rw [e]
  clear e

  go_wp2_with (fail)
  clear c0 c1 c2 c3 c4 c5 c6 c7
  go_loopw [7, 10] (fun s j wr => ∃ k : Nat, k ≤ S.length ∧ j = .int .i64 k ∧ (∃ t, s = .int .i64 t ∧ 0 ≤ t ∧ t ≤ 792 ∧ Hid (topTo f.q (S.take k) = t)) ∧ Hid (Below W0.heap.size W0 wr)) (fun _ j _ => S.length - (intOf j).toNat)
  case atStart => exact ⟨0, Nat.zero_le _, rfl, ⟨0, rfl, by omega, by omega, Lib.hid rfl⟩, Lib.hid (Below.refl _ _)⟩
  case round =>
    obtain ⟨k, hk, rfl, ⟨t, rfl, ht0, ht1, ht⟩, hb⟩ := hrel
    by_cases hlt : k < S.length
    · obtain ⟨l, hl⟩ : ∃ l, S[k]? = some l := ⟨_, List.getElem?_eq_getElem hlt⟩
      obtain ⟨hl8, hlin⟩ := HS.out l (List.mem_of_getElem? hl)
      obtain ⟨b4, o4, A4, c4, eA, b4lt, t4, hA4, hI4⟩ := HR.out.at_ (show (S.map intsN)[k]? = some (intsN l) by rw [List.getElem?_map, hl]; rfl)
      rw [intsN_len] at t4
      have EA := Lib.hid eA
      have t5 := below_cell hb.out t4
      have H57a := Lib.hid (fun z => rBrings_any ⟨L, Ap, cp, Aq, cq⟩ f hql HPAY.out l hl8 hlin A4 c4 (extB wr z) ((HF.out.below hb.out).below (extB_below wr z)) (ints_later (ints_later hI4.at_ hb.out) (extB_below wr z)))
      have HI4 := Lib.hid hI4
      obtain ⟨g0, g1, g2, g3, g4, g5, g6, g7⟩ := (HB.out.of (hb.out.block _ HB.out.lt)).cells
      have y0 := extB_cell g0
      have y1 := extB_cell g1
      have y2 := extB_cell g2
      have y3 := extB_cell g3
      have y4 := extB_cell g4
      have y5 := extB_cell g5
      have y6 := extB_cell g6
      have y7 := extB_cell g7
      have y8 := extB_cell t5
      have hpb : 0 ≤ bringsL f.q l ∧ bringsL f.q l ≤ 792 := ⟨brings_nonneg HPOS.out l, HBL.out l hl8⟩
      have HTK := Lib.hid (take_snoc_next hl)
      have HTS := Lib.hid (topTo_snoc f.q (S.take k) l)
      rw [HTK.out, ht.out] at HTS
      clear hl hl8 hlin hI4 t4 t5 g0 g1 g2 g3 g4 g5 g6 g7 hA4
      generalize bringsL f.q l = x at H57a hpb HTS
      cases EA.out
      by_cases hgt : t < x
      · have hge : t ≤ x := by omega
        rw [show max t x = x by omega] at HTS
        go_upto_region 5 with (fail)
        refine wp_region_ext (by kernel_rfl) (by kernel_rfl) ?_
        repeat (go_big_quiet_step ((go_at_call 57; exact ext_call (H57a.out _))))
        refine wpQuiet_nil ?_
        rintro _ ⟨t1, rfl⟩
        clear y0 y1 y2 y3 y4 y5 y6 y7 y8
        have HB6 := Lib.hid (extB_below wr t1)
        obtain ⟨W6, hW6⟩ : ∃ W6, extB wr t1 = W6 := ⟨_, rfl⟩
        rw [hW6] at HB6 ⊢
        clear hW6

        go_wp2_with (fail)
        go_roundw
        case rel => exact ⟨k + 1, by omega, by go_num, ⟨x, by go_num, by omega, by omega, HTS⟩, Lib.hid (hb0to hb.out HB6.out)⟩
        case measure => simp [intOf]; omega
      · have hge : x ≤ t := by omega
        rw [show max t x = t by omega] at HTS
        clear hgt
        go_upto_region 5 with (fail)
        refine wp_region_ext (by kernel_rfl) (by kernel_rfl) ?_
        repeat (go_big_quiet_step ((go_at_call 57; exact ext_call (H57a.out _))))
        refine wpQuiet_nil ?_
        rintro _ ⟨t1, rfl⟩
        clear y0 y1 y2 y3 y4 y5 y6 y7 y8
        have HB6 := Lib.hid (extB_below wr t1)
        obtain ⟨W6, hW6⟩ : ∃ W6, extB wr t1 = W6 := ⟨_, rfl⟩
        rw [hW6] at HB6 ⊢
        clear hW6

        go_wp2_with (fail)
        go_roundw
        case rel => exact ⟨k + 1, by omega, by go_num, ⟨t, by go_num, by omega, by omega, HTS⟩, Lib.hid (hb0to hb.out HB6.out)⟩
        case measure => simp [intOf]; omega
    · obtain rfl : k = S.length := by omega
      have HTT := Lib.hid (show topTo f.q S = t from by have := ht.out; rwa [List.take_length] at this)
      have hb1 := hb
      clear ht hb
      go_wp2_with (fail)
      go_loopw [8, 9, 11] (fun u v j wx => ∃ k : Nat, k ≤ S.length ∧ j = .int .i64 k ∧ (∃ n m : Nat, u = .int .i64 (n : Int) ∧ v = .int .i64 (m : Int) ∧ n ≤ k ∧ m ≤ k ∧ Hid (soN f.q i t (S.take k) = n) ∧ Hid (allN f.q t (S.take k) = m)) ∧ Hid (Below W0.heap.size W0 wx)) (fun _ _ j _ => S.length - (intOf j).toNat)
      case atStart => exact ⟨0, Nat.zero_le _, rfl, ⟨0, 0, rfl, rfl, by omega, by omega, Lib.hid rfl, Lib.hid rfl⟩, hb1⟩
      case round =>
        clear hb1
        obtain ⟨k, hk, rfl, ⟨n, m, rfl, rfl, hn, hm, hso, hal⟩, hb⟩ := hrel
        by_cases hlt : k < S.length
        · obtain ⟨l, hl⟩ : ∃ l, S[k]? = some l := ⟨_, List.getElem?_eq_getElem hlt⟩
          obtain ⟨hl8, hlin⟩ := HS.out l (List.mem_of_getElem? hl)
          obtain ⟨b4, o4, A4, c4, eA, b4lt, t4, hA4, hI4⟩ := HR.out.at_ (show (S.map intsN)[k]? = some (intsN l) by rw [List.getElem?_map, hl]; rfl)
          rw [intsN_len] at t4
          have EA := Lib.hid eA
          have t5 := below_cell hb.out t4
          have H57a := Lib.hid (fun z => rBrings_any ⟨L, Ap, cp, Aq, cq⟩ f hql HPAY.out l hl8 hlin A4 c4 (extB wr z) ((HF.out.below hb.out).below (extB_below wr z)) (ints_later (ints_later hI4.at_ hb.out) (extB_below wr z)))
          have HI4 := Lib.hid hI4
          obtain ⟨g0, g1, g2, g3, g4, g5, g6, g7⟩ := (HB.out.of (hb.out.block _ HB.out.lt)).cells
          have y0 := extB_cell g0
          have y1 := extB_cell g1
          have y2 := extB_cell g2
          have y3 := extB_cell g3
          have y4 := extB_cell g4
          have y5 := extB_cell g5
          have y6 := extB_cell g6
          have y7 := extB_cell g7
          have y8 := extB_cell t5
          have hpb : 0 ≤ bringsL f.q l ∧ bringsL f.q l ≤ 792 := ⟨brings_nonneg HPOS.out l, HBL.out l hl8⟩
          have HTK := Lib.hid (take_snoc_next hl)
          have HSO := Lib.hid (soN_snoc f.q i t (S.take k) l)
          have HAL := Lib.hid (allN_snoc f.q t (S.take k) l)
          rw [HTK.out, hso.out] at HSO
          rw [HTK.out, hal.out] at HAL
          have H24 := Lib.hid (fun W (hW : Below wr.heap.size wr W) => (by
            have h := rIn_any (intsN l) (by rw [intsN_len]; omega) (i : Int) A4 c4 W (ints_later (ints_later HI4.out.at_ hb.out) hW)
            rw [intsN_len] at h
            exact h : Calls Try.prog 24 #[.slice A4 l.length c4, .int .i64 (i : Int)] W fun e w' => e = .returned (.bool (decide ((i : Int) ∈ intsN l))) ∧ Below W.heap.size W w'))
          have HT5 := Lib.hid t5
          clear hl hl8 hlin hI4 t4 t5 g0 g1 g2 g3 g4 g5 g6 g7 hA4
          cases EA.out
          by_cases hbr : bringsL f.q l = t
          · rw [hbr] at H57a
            have hdn : (t != t) = false := bne_self_eq_false t
            rw [if_pos hbr] at HAL
            by_cases him : i ∈ l
            · rw [if_pos ⟨hbr, him⟩] at HSO
              rw [show decide ((i : Int) ∈ intsN l) = true from decide_eq_true (mem_intsN.2 him)] at H24
              clear hbr him hpb
              go_upto_region 9 with (fail)
              refine wp_region_ext (by kernel_rfl) (by kernel_rfl) ?_
              repeat (go_big_quiet_step ((go_at_call 57; exact ext_call (H57a.out _))))
              refine wpQuiet_nil ?_
              rintro _ ⟨t1, rfl⟩
              clear y0 y1 y2 y3 y4 y5 y6 y7 y8
              have HB6 := Lib.hid (extB_below wr t1)
              obtain ⟨W6, hW6⟩ : ∃ W6, extB wr t1 = W6 := ⟨_, rfl⟩
              rw [hW6] at HB6 ⊢
              clear hW6

              have t6 := below_cell HB6.out HT5.out
              go_wp2_with (go_at_call 24; refine (H24.out _ HB6.out).mono ?_; rintro e w7 ⟨rfl, hb7⟩; have HB7 := Lib.hid (hb0to HB6.out hb7); clear hb7)
              go_roundw
              case rel => exact ⟨k + 1, by omega, by go_num, ⟨n + 1, m + 1, by go_num, by go_num, by omega, by omega, HSO, HAL⟩, Lib.hid (hb0to hb.out HB7.out)⟩
              case measure => simp [intOf]; omega
            · rw [if_neg (fun h => him h.2)] at HSO
              rw [show decide ((i : Int) ∈ intsN l) = false from decide_eq_false (fun h => him (mem_intsN.1 h))] at H24
              clear hbr him hpb
              go_upto_region 9 with (fail)
              refine wp_region_ext (by kernel_rfl) (by kernel_rfl) ?_
              repeat (go_big_quiet_step ((go_at_call 57; exact ext_call (H57a.out _))))
              refine wpQuiet_nil ?_
              rintro _ ⟨t1, rfl⟩
              clear y0 y1 y2 y3 y4 y5 y6 y7 y8
              have HB6 := Lib.hid (extB_below wr t1)
              obtain ⟨W6, hW6⟩ : ∃ W6, extB wr t1 = W6 := ⟨_, rfl⟩
              rw [hW6] at HB6 ⊢
              clear hW6

              have t6 := below_cell HB6.out HT5.out
              go_wp2_with (go_at_call 24; refine (H24.out _ HB6.out).mono ?_; rintro e w7 ⟨rfl, hb7⟩; have HB7 := Lib.hid (hb0to HB6.out hb7); clear hb7)
              go_roundw
              case rel => exact ⟨k + 1, by omega, by go_num, ⟨n, m + 1, by go_num, by go_num, by omega, by omega, HSO, HAL⟩, Lib.hid (hb0to hb.out HB7.out)⟩
              case measure => simp [intOf]; omega
          · rw [if_neg (fun h => hbr h.1)] at HSO
            rw [if_neg hbr] at HAL
            have hdn : (bringsL f.q l != t) = true := bne_iff_ne.2 hbr
            generalize bringsL f.q l = x at H57a hpb hdn
            clear hbr
            go_upto_region 9 with (fail)
            refine wp_region_ext (by kernel_rfl) (by kernel_rfl) ?_
            repeat (go_big_quiet_step ((go_at_call 57; exact ext_call (H57a.out _))))
            refine wpQuiet_nil ?_
            rintro _ ⟨t1, rfl⟩
            clear y0 y1 y2 y3 y4 y5 y6 y7 y8
            have HB6 := Lib.hid (extB_below wr t1)
            obtain ⟨W6, hW6⟩ : ∃ W6, extB wr t1 = W6 := ⟨_, rfl⟩
            rw [hW6] at HB6 ⊢
            clear hW6

            go_wp2_with (fail)
            go_roundw
            case rel => exact ⟨k + 1, by omega, by go_num, ⟨n, m, by go_num, by go_num, by omega, by omega, HSO, HAL⟩, Lib.hid (hb0to hb.out HB6.out)⟩
            case measure => simp [intOf]; omega
        · obtain rfl : k = S.length := by omega
          have HQ := Lib.hid (show wonS f.q S i = knownN n m by
            have h1 := hso.out
            have h2 := hal.out
            rw [List.take_length] at h1 h2
            unfold wonS
            rw [HTT.out, h1, h2])
          clear hso hal
          go_wp2_with (go_at_call 108; refine (known_any n m _).mono ?_; rintro e w8 ⟨rfl, rfl⟩)
          go_ret
          exact ⟨congrArg (fun v => Ending.returned (.int .i64 v)) HQ.out.symm, hb0to HBW.out hb.out⟩

end Go.Proofs.Ytmconopnplgcfaa
