import Derived.Test.YtmconopnplgcfaaF6
namespace Go.Proofs.Ytmconopnplgcfaa
open Go.RowKit

/-! brings 91. -/
theorem bits_lt {n m i : Nat} (h : i ∈ bitsL n m) : i < n := (mem_bits.1 h).1
theorem br_no {q : List Bid} {rd : List Int} {l : List Nat} {k i : Nat} (hk : l[k]? = some i) (h : ¬ SaleL q rd (l.take k ++ [i])) : brV q rd l = -1 := by
  refine brV_no fun hs => h ?_
  have e : l = (l.take k ++ [i]) ++ l.drop (k + 1) := by
    obtain ⟨h1, h2⟩ := List.getElem?_eq_some_iff.1 hk
    rw [List.append_assoc, ← h2, List.singleton_append, ← List.drop_eq_getElem_cons h1, List.take_append_drop]
  rw [e] at hs
  exact sale_pre hs
theorem bits_before {n m k i : Nat} (h : (bitsL n m)[k]? = some i) : ∀ j ∈ (bitsL n m).take k, j < i := fun j hj => by
  obtain ⟨h1, h2⟩ := List.getElem?_eq_some_iff.1 h
  obtain ⟨t, ht, e⟩ := List.mem_take_iff_getElem.1 hj
  have := List.pairwise_iff_getElem.1 (bits_up n m) t k (by omega) h1 (by omega)
  rw [e, h2] at this; exact this
theorem bd_next {n x k : Int} (h0 : 0 ≤ n) (h1 : n ≤ 99 * k) (h2 : 0 ≤ x) (h3 : x ≤ 99) : 0 ≤ n + x ∧ n + x ≤ 99 * (k + 1) := by omega
set_option maxRecDepth 100000 in
set_option maxHeartbeats 4000000 in
theorem brings_any (F : FL) (f : Fair) (hf : FOK f) (rd : List Int) (b : Nat) (m : Nat) (hm : m < 2 ^ f.q.length) (w : World) (hO : OpenAt w b F f rd) :
    Calls Try.prog 91 #[.pointer (some ⟨b, 0, none⟩), .int .i64 (m : Int)] w fun e w' => e = .returned (.int .i64 (brV f.q rd (bitsL f.q.length m))) ∧ Below w.heap.size w w' := by
  have hm8 : m < 256 := Nat.lt_of_lt_of_le hm (pow_eight hf.ql)
  have hbe := bits_eight hf.ql hm
  have H69 := Lib.hid (by have := list_any m hm8 w; rw [hbe] at this; exact this)
  obtain ⟨Al, cl, r, hOB, hLA, hR⟩ := hO.ex
  have HOB := Lib.hid hOB
  have HLA := Lib.hid hLA
  have HR := Lib.hid hR
  have hr16 := hR.lt
  have HFO := Lib.hid hf
  have hql := hf.ql
  have HBU := Lib.hid (fun (k i : Nat) => bits_before (n := f.q.length) (m := m) (k := k) (i := i))
  have HMB := Lib.hid (fun i => bits_lt (n := f.q.length) (m := m) (i := i))
  have hlen := bits_len f.q.length m
  obtain ⟨l, hl⟩ : ∃ l, bitsL f.q.length m = l := ⟨_, rfl⟩
  rw [hl] at H69 HBU HMB hlen ⊢
  clear hO hOB hLA hR hf hbe hl hm
  go_enter Try.func91, Try.ntmps91
  go_wp2_with (go_at_call 69; refine H69.out.mono ?_; rintro e w1 ⟨⟨v0, rfl, hv0⟩, hb1⟩; have B1 := Lib.hid hb1; obtain ⟨A1, c1, rfl, _, _, hI1⟩ := hv0.lay; rw [intsN_len]; have HI1 := Lib.hid hI1.at_; clear hb1 hv0 hI1)
  go_loopw [14, 5, 6, 7] (fun i bv bu bn wr => ∃ (k u v : Nat) (n : Int), k ≤ l.length ∧ i = .int .i64 k ∧ bv = .int .i64 (v : Int) ∧ bu = .int .i64 (u : Int) ∧ bn = .int .i64 n ∧ 0 ≤ n ∧ n ≤ 99 * (k : Int) ∧ Hid (BrTo f.q rd (l.take k) u v n) ∧ Hid (Below w1.heap.size w1 wr)) (fun i _ _ _ _ => l.length - (intOf i).toNat)
  case atStart => exact ⟨0, 0, 0, 0, Nat.zero_le _, rfl, rfl, rfl, rfl, by omega, by omega, Lib.hid (BrTo.nil _ _), Lib.hid (Below.refl _ _)⟩
  case round =>
    obtain ⟨k, u, v, n, hk, rfl, rfl, rfl, rfl, hn0, hn1, hbr, hb⟩ := hrel
    by_cases hlt : k < l.length
    · obtain ⟨i, hi⟩ : ∃ i, l[k]? = some i := ⟨_, List.getElem?_eq_getElem hlt⟩
      have hiq : i < f.q.length := HMB.out i (List.mem_of_getElem? hi)
      obtain ⟨x, hx⟩ : ∃ x, f.q[i]? = some x := ⟨_, List.getElem?_eq_getElem hiq⟩
      have hxm := List.mem_of_getElem? hx
      have hwho := HFO.out.who x hxm
      have hpay := HFO.out.pay x hxm
      have hnb := HFO.out.n1
      have hbl := HFO.out.bl
      have hbar := HFO.out.bar x hxm
      obtain ⟨wn, hwn⟩ := Int.eq_ofNat_of_zero_le hwho.1
      have hwn4 : wn < 4 := by omega
      obtain ⟨bi, oi, eA, blt, d0⟩ := HI1.out.at_ (intsN_at hi)
      have e0 := below_cell hb.out d0
      obtain ⟨lb, ol, eL, lblt, mb, hmb, d1, d2, d3⟩ := HLA.out.at_ hx
      have hbw := hb0to B1.out hb.out
      have e1 := below_cell hbw d1
      have e2 := below_cell hbw d2
      have e3 := below_cell hbw d3
      rw [hwn] at e1
      subst eL
      subst eA
      obtain ⟨_, _, _, _, _, _, _, _, g8, g9⟩ := (HOB.out.of (hbw.block _ HOB.out.lt)).cells
      have hu16 := hbr.out.bu.lt
      have hv16 := hbr.out.bv.lt
      have hm16 := hmb.lt
      have HIF := hbr.out.iff (HBU.out k i hi) hx hwn hwn4 hmb (fun y hy => by have := hbar y hy; omega) HR.out
      have HT := Lib.hid (show l.take (k + 1) = l.take k ++ [i] from (take_snoc_next hi).symm)
      have HSH := Lib.hid (one_shl wn (by omega))
      have HOR1 := Lib.hid (or_bits u hu16 (1 <<< wn) (shl_lt wn hwn4))
      have HOR2 := Lib.hid (or_bits v hv16 mb hm16)
      have HAN := and_bits v hv16 mb hm16
      have HAD := andnot_bits mb hm16 r hr16
      have HBD := Lib.hid (bd_next hn0 hn1 hpay.1 hpay.2)
      have hhas := fun W => has_any u wn (by omega) (by omega) W
      have HI := Lib.hid hi
      have HMBK := Lib.hid hmb
      have HX := Lib.hid hx
      have HWN := Lib.hid hwn
      clear hi hx hmb d0 d1 d2 d3 hbar hxm hbw hwn hwho
      cases hA : u.testBit wn
      · rw [hA] at hhas
        have H102 := Lib.hid hhas
        by_cases hB : v &&& mb = 0
        · by_cases hC : mb &&& (15 - r) = 0
          · have HNX := Lib.hid (show BrTo f.q rd (l.take (k + 1)) (u ||| (1 <<< wn)) (v ||| mb) (n + x.pay) by rw [HT.out]; exact hbr.out.next (HIF.2 ⟨hA, hB, hC⟩) HX.out HWN.out hwn4 HMBK.out)
            have hd2 : (bits BinOp.and IntKind.i64 (v : Int) (mb : Int) != 0) = false := by rw [HAN, hB]; rfl
            have hd3 : (bits BinOp.andNot IntKind.i64 (mb : Int) (r : Int) != 0) = false := by rw [HAD, hC]; rfl
            clear hhas hA hB hC HIF HAN HAD
            as_aux_lemma =>
            go_upto_region 7 with (fail)
            obtain ⟨W5, hW5⟩ : ∃ W5, wr.alloc (.cells #[.int .i64 (wn : Int), .int .i64 (mb : Int), .int .i64 x.pay] 102) = W5 := ⟨_, rfl⟩
            have hb5 := al_below wr (.cells #[.int .i64 (wn : Int), .int .i64 (mb : Int), .int .i64 x.pay] 102)
            have z0 := cell_of_heap (o := 0) (heap_new1 wr (.cells #[.int .i64 (wn : Int), .int .i64 (mb : Int), .int .i64 x.pay] 102)) rfl
            have z1 := cell_of_heap (o := 1) (heap_new1 wr (.cells #[.int .i64 (wn : Int), .int .i64 (mb : Int), .int .i64 x.pay] 102)) rfl
            have z2 := cell_of_heap (o := 2) (heap_new1 wr (.cells #[.int .i64 (wn : Int), .int .i64 (mb : Int), .int .i64 x.pay] 102)) rfl
            rw [hW5] at hb5 z0 z1 z2 ⊢
            have z9 := below_cell hb5 g9
            have y0 := extB_cell z0
            have y1 := extB_cell z1
            have y9 := extB_cell z9
            have HB5 := Lib.hid hb5
            have Z0 := Lib.hid z0
            have Z1 := Lib.hid z1
            have Z2 := Lib.hid z2
            clear hW5 hb5 z0 z1 z2 z9 g8 g9 e1 e2 e3
            refine wp_region_ext (by kernel_rfl) (by kernel_rfl) ?_
            repeat (go_big_quiet_step ((go_at_call 102; exact ext_same (H102.out _))))
            refine wpQuiet_nil ?_
            rintro _ ⟨t1, rfl⟩
            clear y0 y1 y9
            have HB6 := Lib.hid (extB_below W5 t1)
            have q0 := below_cell HB6.out Z0.out
            have q1 := below_cell HB6.out Z1.out
            have q2 := below_cell HB6.out Z2.out
            obtain ⟨W6, hW6⟩ : ∃ W6, extB W5 t1 = W6 := ⟨_, rfl⟩
            rw [hW6] at HB6 q0 q1 q2 ⊢
            clear hW6
            go_wp2_with (fail)
            go_roundw
            case rel => exact ⟨k + 1, u ||| (1 <<< wn), v ||| mb, n + x.pay, by omega, by go_num, by rw [HOR2.out], congrArg _ (by rw [HSH.out, HOR1.out]), rfl, HBD.out.1, HBD.out.2, HNX, Lib.hid (hb0to hb.out (hb0to HB5.out HB6.out))⟩
            case measure => simp [intOf]; omega
          · have HNO := Lib.hid (br_no HI.out (fun hs => hC (HIF.1 hs).2.2))
            have hd2 : (bits BinOp.and IntKind.i64 (v : Int) (mb : Int) != 0) = false := by rw [HAN, hB]; rfl
            have hd3 : (bits BinOp.andNot IntKind.i64 (mb : Int) (r : Int) != 0) = true := by rw [HAD, bne_iff_ne]; omega
            clear hhas hA hB hC HIF HAN HAD
            as_aux_lemma =>
            go_upto_region 7 with (fail)
            obtain ⟨W5, hW5⟩ : ∃ W5, wr.alloc (.cells #[.int .i64 (wn : Int), .int .i64 (mb : Int), .int .i64 x.pay] 102) = W5 := ⟨_, rfl⟩
            have hb5 := al_below wr (.cells #[.int .i64 (wn : Int), .int .i64 (mb : Int), .int .i64 x.pay] 102)
            have z0 := cell_of_heap (o := 0) (heap_new1 wr (.cells #[.int .i64 (wn : Int), .int .i64 (mb : Int), .int .i64 x.pay] 102)) rfl
            have z1 := cell_of_heap (o := 1) (heap_new1 wr (.cells #[.int .i64 (wn : Int), .int .i64 (mb : Int), .int .i64 x.pay] 102)) rfl
            have z2 := cell_of_heap (o := 2) (heap_new1 wr (.cells #[.int .i64 (wn : Int), .int .i64 (mb : Int), .int .i64 x.pay] 102)) rfl
            rw [hW5] at hb5 z0 z1 z2 ⊢
            have z9 := below_cell hb5 g9
            have y0 := extB_cell z0
            have y1 := extB_cell z1
            have y9 := extB_cell z9
            have HB5 := Lib.hid hb5
            have Z0 := Lib.hid z0
            have Z1 := Lib.hid z1
            have Z2 := Lib.hid z2
            clear hW5 hb5 z0 z1 z2 z9 g8 g9 e1 e2 e3
            refine wp_region_ext (by kernel_rfl) (by kernel_rfl) ?_
            repeat (go_big_quiet_step ((go_at_call 102; exact ext_same (H102.out _))))
            refine wpQuiet_nil ?_
            rintro _ ⟨t1, rfl⟩
            clear y0 y1 y9
            have HB6 := Lib.hid (extB_below W5 t1)
            have q0 := below_cell HB6.out Z0.out
            have q1 := below_cell HB6.out Z1.out
            have q2 := below_cell HB6.out Z2.out
            obtain ⟨W6, hW6⟩ : ∃ W6, extB W5 t1 = W6 := ⟨_, rfl⟩
            rw [hW6] at HB6 q0 q1 q2 ⊢
            clear hW6
            go_wp2_with (fail)
            go_ret
            exact ⟨by rw [HNO.out]; rfl, hb0to B1.out (hb0to hb.out (hb0to HB5.out HB6.out))⟩
        · have HNO := Lib.hid (br_no HI.out (fun hs => hB (HIF.1 hs).2.1))
          have hd2 : (bits BinOp.and IntKind.i64 (v : Int) (mb : Int) != 0) = true := by rw [HAN, bne_iff_ne]; omega
          clear hhas hA hB HIF HAN HAD
          as_aux_lemma =>
          go_upto_region 7 with (fail)
          obtain ⟨W5, hW5⟩ : ∃ W5, wr.alloc (.cells #[.int .i64 (wn : Int), .int .i64 (mb : Int), .int .i64 x.pay] 102) = W5 := ⟨_, rfl⟩
          have hb5 := al_below wr (.cells #[.int .i64 (wn : Int), .int .i64 (mb : Int), .int .i64 x.pay] 102)
          have z0 := cell_of_heap (o := 0) (heap_new1 wr (.cells #[.int .i64 (wn : Int), .int .i64 (mb : Int), .int .i64 x.pay] 102)) rfl
          have z1 := cell_of_heap (o := 1) (heap_new1 wr (.cells #[.int .i64 (wn : Int), .int .i64 (mb : Int), .int .i64 x.pay] 102)) rfl
          have z2 := cell_of_heap (o := 2) (heap_new1 wr (.cells #[.int .i64 (wn : Int), .int .i64 (mb : Int), .int .i64 x.pay] 102)) rfl
          rw [hW5] at hb5 z0 z1 z2 ⊢
          have z9 := below_cell hb5 g9
          have y0 := extB_cell z0
          have y1 := extB_cell z1
          have y9 := extB_cell z9
          have HB5 := Lib.hid hb5
          have Z0 := Lib.hid z0
          have Z1 := Lib.hid z1
          have Z2 := Lib.hid z2
          clear hW5 hb5 z0 z1 z2 z9 g8 g9 e1 e2 e3
          refine wp_region_ext (by kernel_rfl) (by kernel_rfl) ?_
          repeat (go_big_quiet_step ((go_at_call 102; exact ext_same (H102.out _))))
          refine wpQuiet_nil ?_
          rintro _ ⟨t1, rfl⟩
          clear y0 y1 y9
          have HB6 := Lib.hid (extB_below W5 t1)
          have q0 := below_cell HB6.out Z0.out
          have q1 := below_cell HB6.out Z1.out
          have q2 := below_cell HB6.out Z2.out
          obtain ⟨W6, hW6⟩ : ∃ W6, extB W5 t1 = W6 := ⟨_, rfl⟩
          rw [hW6] at HB6 q0 q1 q2 ⊢
          clear hW6
          go_wp2_with (fail)
          go_ret
          exact ⟨by rw [HNO.out]; rfl, hb0to B1.out (hb0to hb.out (hb0to HB5.out HB6.out))⟩
      · rw [hA] at hhas
        have H102 := Lib.hid hhas
        have HNO := Lib.hid (br_no HI.out (fun hs => by rw [(HIF.1 hs).1] at hA; cases hA))
        clear hhas hA HIF HAN HAD
        as_aux_lemma =>
        go_upto_region 7 with (fail)
        obtain ⟨W5, hW5⟩ : ∃ W5, wr.alloc (.cells #[.int .i64 (wn : Int), .int .i64 (mb : Int), .int .i64 x.pay] 102) = W5 := ⟨_, rfl⟩
        have hb5 := al_below wr (.cells #[.int .i64 (wn : Int), .int .i64 (mb : Int), .int .i64 x.pay] 102)
        have z0 := cell_of_heap (o := 0) (heap_new1 wr (.cells #[.int .i64 (wn : Int), .int .i64 (mb : Int), .int .i64 x.pay] 102)) rfl
        have z1 := cell_of_heap (o := 1) (heap_new1 wr (.cells #[.int .i64 (wn : Int), .int .i64 (mb : Int), .int .i64 x.pay] 102)) rfl
        have z2 := cell_of_heap (o := 2) (heap_new1 wr (.cells #[.int .i64 (wn : Int), .int .i64 (mb : Int), .int .i64 x.pay] 102)) rfl
        rw [hW5] at hb5 z0 z1 z2 ⊢
        have z9 := below_cell hb5 g9
        have y0 := extB_cell z0
        have y1 := extB_cell z1
        have y9 := extB_cell z9
        have HB5 := Lib.hid hb5
        have Z0 := Lib.hid z0
        have Z1 := Lib.hid z1
        have Z2 := Lib.hid z2
        clear hW5 hb5 z0 z1 z2 z9 g8 g9 e1 e2 e3
        refine wp_region_ext (by kernel_rfl) (by kernel_rfl) ?_
        repeat (go_big_quiet_step ((go_at_call 102; exact ext_same (H102.out _))))
        refine wpQuiet_nil ?_
        rintro _ ⟨t1, rfl⟩
        clear y0 y1 y9
        have HB6 := Lib.hid (extB_below W5 t1)
        have q0 := below_cell HB6.out Z0.out
        have q1 := below_cell HB6.out Z1.out
        have q2 := below_cell HB6.out Z2.out
        obtain ⟨W6, hW6⟩ : ∃ W6, extB W5 t1 = W6 := ⟨_, rfl⟩
        rw [hW6] at HB6 q0 q1 q2 ⊢
        clear hW6
        go_wp2_with (fail)
        go_ret
        exact ⟨by rw [HNO.out]; rfl, hb0to B1.out (hb0to hb.out (hb0to HB5.out HB6.out))⟩
    · obtain rfl : k = l.length := by omega
      have hbr2 := hbr.out
      rw [List.take_length] at hbr2
      have HQ := Lib.hid (show brV f.q rd l = n by rw [brV_yes hbr2.sale, hbr2.val])
      clear hbr hbr2
      go_wp2_with (fail)
      go_ret
      exact ⟨by rw [HQ.out]; rfl, hb0to B1.out hb.out⟩


end Go.Proofs.Ytmconopnplgcfaa
