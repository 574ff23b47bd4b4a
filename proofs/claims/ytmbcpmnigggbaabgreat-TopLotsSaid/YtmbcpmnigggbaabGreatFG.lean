import Derived.Test.YtmbcpmnigggbaabGreatF6
import Derived.OwnWalkIn
import Derived.TacticsInMore
import Derived.LoopNIn
import Derived.LoopIn
namespace Go.Proofs.YtmbcpmnigggbaabGreat
open Go.RowKit

/-! brings 91. -/
theorem bits_lt {n m i : Nat} (h : i ∈ bitsL n m) : i < n := (mem_bits.1 h).1
theorem br_no {q : List Bid} {rd : List Int} {l : List Nat} {k i : Nat} (hk : l[k]? = some i) (h : ¬ SaleL q rd (l.take k ++ [i])) : brV q rd l = -1 := by
  refine brV_no fun hs => h ?_
  have e : l = (l.take k ++ [i]) ++ l.drop (k + 1) := by
    obtain ⟨h1, h2⟩ := List.getElem?_eq_some_iff.1 hk
    rw [List.append_assoc, ← h2, List.singleton_append, ← List.drop_eq_getElem_cons h1, List.take_append_drop]
  rw [e] at hs
  exact sale_pre hs
theorem bits_before {n m k i : Nat} (h : (bitsL n m)[k]? = some i) : ∀ j ∈ (bitsL n m).take k, j < i := fun j hj => by
  obtain ⟨h1, h2⟩ := List.getElem?_eq_some_iff.1 h
  obtain ⟨t, ht, e⟩ := List.mem_take_iff_getElem.1 hj
  have := List.pairwise_iff_getElem.1 (bits_up n m) t k (by omega) h1 (by omega)
  rw [e, h2] at this; exact this
theorem bd_next {n x k : Int} (h0 : 0 ≤ n) (h1 : n ≤ 99 * k) (h2 : 0 ≤ x) (h3 : x ≤ 99) : 0 ≤ n + x ∧ n + x ≤ 99 * (k + 1) := by omega
set_option maxRecDepth 100000 in
set_option maxHeartbeats 4000000 in
theorem brings_any (F : FL) (f : Fair) (hf : FOK f) (rd : List Int) (b : Nat) (m : Nat) (hm : m < 2 ^ f.q.length) (w : World) (hO : OpenAt w b F f rd) :
    Calls Tryz.prog 84 #[.pointer (some ⟨b, 0, none⟩), .int .i64 (m : Int)] w fun e w' => e = .returned (.int .i64 (brV f.q rd (bitsL f.q.length m))) ∧ Below w.heap.size w w' := by
  have hm8 : m < 256 := Nat.lt_of_lt_of_le hm (pow_eight hf.ql)
  have hbe := bits_eight hf.ql hm
  have H69 := Lib.hid (by have := list_any m hm8 w; rw [hbe] at this; exact this)
  obtain ⟨Al, cl, r, hOB, hLA, hR⟩ := hO.ex
  have HOB := Lib.hid hOB
  have HLA := Lib.hid hLA
  have HR := Lib.hid hR
  have hr16 := hR.lt
  have HFO := Lib.hid hf
  have hql := hf.ql
  have HBU := Lib.hid (fun (k i : Nat) => bits_before (n := f.q.length) (m := m) (k := k) (i := i))
  have HMB := Lib.hid (fun i => bits_lt (n := f.q.length) (m := m) (i := i))
  have hlen := bits_len f.q.length m
  obtain ⟨l, hl⟩ : ∃ l, bitsL f.q.length m = l := ⟨_, rfl⟩
  rw [hl] at H69 HBU HMB hlen ⊢
  clear hO hOB hLA hR hf hbe hl hm
  go_enter Tryz.func84, Tryz.ntmps84
  go_wp2_with (go_at_call 47; refine H69.out.mono ?_; rintro e w1 ⟨⟨v0, rfl, hv0⟩, hb1⟩; have B1 := Lib.hid hb1; obtain ⟨A1, c1, rfl, _, _, hI1⟩ := hv0.lay; rw [intsN_len]; have HI1 := Lib.hid hI1.at_; clear hb1 hv0 hI1)
  go_loopw [14, 5, 6, 7] (fun i bv bu bn wr => ∃ (k u v : Nat) (n : Int), k ≤ l.length ∧ i = .int .i64 k ∧ bv = .int .i64 (v : Int) ∧ bu = .int .i64 (u : Int) ∧ bn = .int .i64 n ∧ 0 ≤ n ∧ n ≤ 99 * (k : Int) ∧ Hid (BrTo f.q rd (l.take k) u v n) ∧ Hid (Below w1.heap.size w1 wr)) (fun i _ _ _ _ => l.length - (intOf i).toNat)
  case atStart => exact ⟨0, 0, 0, 0, Nat.zero_le _, rfl, rfl, rfl, rfl, by omega, by omega, Lib.hid (BrTo.nil _ _), Lib.hid (Below.refl _ _)⟩
  case round =>
    obtain ⟨k, u, v, n, hk, rfl, rfl, rfl, rfl, hn0, hn1, hbr, hb⟩ := hrel
    by_cases hlt : k < l.length
    · obtain ⟨i, hi⟩ : ∃ i, l[k]? = some i := ⟨_, List.getElem?_eq_getElem hlt⟩
      have hiq : i < f.q.length := HMB.out i (List.mem_of_getElem? hi)
      obtain ⟨x, hx⟩ : ∃ x, f.q[i]? = some x := ⟨_, List.getElem?_eq_getElem hiq⟩
      have hxm := List.mem_of_getElem? hx
      have hwho := HFO.out.who x hxm
      have hpay := HFO.out.pay x hxm
      have hnb := HFO.out.n1
      have hbl := HFO.out.bl
      have hbar := HFO.out.bar x hxm
      obtain ⟨wn, hwn⟩ := Int.eq_ofNat_of_zero_le hwho.1
      have hwn4 : wn < 4 := by omega
      obtain ⟨bi, oi, eA, blt, d0⟩ := HI1.out.at_ (intsN_at hi)
      have e0 := below_cell hb.out d0
      obtain ⟨lb, ol, eL, lblt, mb, hmb, d1, d2, d3⟩ := HLA.out.at_ hx
      have hbw := hb0to B1.out hb.out
      have e1 := below_cell hbw d1
      have e2 := below_cell hbw d2
      have e3 := below_cell hbw d3
      rw [hwn] at e1
      subst eL
      subst eA
      obtain ⟨_, _, _, _, _, _, _, _, g8, g9⟩ := (HOB.out.of (hbw.block _ HOB.out.lt)).cells
      have hu16 := hbr.out.bu.lt
      have hv16 := hbr.out.bv.lt
      have hm16 := hmb.lt
      have HIF := hbr.out.iff (HBU.out k i hi) hx hwn hwn4 hmb (fun y hy => by have := hbar y hy; omega) HR.out
      have HT := Lib.hid (show l.take (k + 1) = l.take k ++ [i] from (take_snoc_next hi).symm)
      have HSH := Lib.hid (one_shl wn (by omega))
      have HOR1 := Lib.hid (or_bits u hu16 (1 <<< wn) (shl_lt wn hwn4))
      have HOR2 := Lib.hid (or_bits v hv16 mb hm16)
      have HAN := and_bits v hv16 mb hm16
      have HAD := andnot_bits mb hm16 r hr16
      have HBD := Lib.hid (bd_next hn0 hn1 hpay.1 hpay.2)
      have hhas := fun W => has_any u wn (by omega) (by omega) W
      have HI := Lib.hid hi
      have HMBK := Lib.hid hmb
      have HX := Lib.hid hx
      have HWN := Lib.hid hwn
      clear hi hx hmb d0 d1 d2 d3 hbar hxm hbw hwn hwho
      cases hA : u.testBit wn
      · rw [hA] at hhas
        have H102 := Lib.hid hhas
        by_cases hB : v &&& mb = 0
        · by_cases hC : mb &&& (15 - r) = 0
          · have HNX := Lib.hid (show BrTo f.q rd (l.take (k + 1)) (u ||| (1 <<< wn)) (v ||| mb) (n + x.pay) by rw [HT.out]; exact hbr.out.next (HIF.2 ⟨hA, hB, hC⟩) HX.out HWN.out hwn4 HMBK.out)
            have hd2 : (bits BinOp.and IntKind.i64 (v : Int) (mb : Int) != 0) = false := by rw [HAN, hB]; rfl
            have hd3 : (bits BinOp.andNot IntKind.i64 (mb : Int) (r : Int) != 0) = false := by rw [HAD, hC]; rfl
            clear hhas hA hB hC HIF HAN HAD
            as_aux_lemma =>
            go_upto_region 7 with (fail)
            obtain ⟨W5, hW5⟩ : ∃ W5, wr.alloc (.cells #[.int .i64 (wn : Int), .int .i64 (mb : Int), .int .i64 x.pay] 99) = W5 := ⟨_, rfl⟩
            have hb5 := al_below wr (.cells #[.int .i64 (wn : Int), .int .i64 (mb : Int), .int .i64 x.pay] 99)
            have z0 := cell_of_heap (o := 0) (heap_new1 wr (.cells #[.int .i64 (wn : Int), .int .i64 (mb : Int), .int .i64 x.pay] 99)) rfl
            have z1 := cell_of_heap (o := 1) (heap_new1 wr (.cells #[.int .i64 (wn : Int), .int .i64 (mb : Int), .int .i64 x.pay] 99)) rfl
            have z2 := cell_of_heap (o := 2) (heap_new1 wr (.cells #[.int .i64 (wn : Int), .int .i64 (mb : Int), .int .i64 x.pay] 99)) rfl
            rw [hW5] at hb5 z0 z1 z2 ⊢
            have z9 := below_cell hb5 g9
            have y0 := extB_cell z0
            have y1 := extB_cell z1
            have y9 := extB_cell z9
            have HB5 := Lib.hid hb5
            have Z0 := Lib.hid z0
            have Z1 := Lib.hid z1
            have Z2 := Lib.hid z2
            clear hW5 hb5 z0 z1 z2 z9 g8 g9 e1 e2 e3
            refine wp_region_ext (by kernel_rfl) (by kernel_rfl) ?_
            repeat (go_big_quiet_step ((go_at_call 65; exact ext_same (H102.out _))))
            refine wpQuiet_nil ?_
            rintro _ ⟨t1, rfl⟩
            clear y0 y1 y9
            have HB6 := Lib.hid (extB_below W5 t1)
            have q0 := below_cell HB6.out Z0.out
            have q1 := below_cell HB6.out Z1.out
            have q2 := below_cell HB6.out Z2.out
            obtain ⟨W6, hW6⟩ : ∃ W6, extB W5 t1 = W6 := ⟨_, rfl⟩
            rw [hW6] at HB6 q0 q1 q2 ⊢
            clear hW6
            go_wp2_with (fail)
            go_roundw
            case rel => exact ⟨k + 1, u ||| (1 <<< wn), v ||| mb, n + x.pay, by omega, by go_num, by rw [HOR2.out], congrArg _ (by rw [HSH.out, HOR1.out]), rfl, HBD.out.1, HBD.out.2, HNX, Lib.hid (hb0to hb.out (hb0to HB5.out HB6.out))⟩
            case measure => simp [intOf]; omega
          · have HNO := Lib.hid (br_no HI.out (fun hs => hC (HIF.1 hs).2.2))
            have hd2 : (bits BinOp.and IntKind.i64 (v : Int) (mb : Int) != 0) = false := by rw [HAN, hB]; rfl
            have hd3 : (bits BinOp.andNot IntKind.i64 (mb : Int) (r : Int) != 0) = true := by rw [HAD, bne_iff_ne]; omega
            clear hhas hA hB hC HIF HAN HAD
            as_aux_lemma =>
            go_upto_region 7 with (fail)
            obtain ⟨W5, hW5⟩ : ∃ W5, wr.alloc (.cells #[.int .i64 (wn : Int), .int .i64 (mb : Int), .int .i64 x.pay] 99) = W5 := ⟨_, rfl⟩
            have hb5 := al_below wr (.cells #[.int .i64 (wn : Int), .int .i64 (mb : Int), .int .i64 x.pay] 99)
            have z0 := cell_of_heap (o := 0) (heap_new1 wr (.cells #[.int .i64 (wn : Int), .int .i64 (mb : Int), .int .i64 x.pay] 99)) rfl
            have z1 := cell_of_heap (o := 1) (heap_new1 wr (.cells #[.int .i64 (wn : Int), .int .i64 (mb : Int), .int .i64 x.pay] 99)) rfl
            have z2 := cell_of_heap (o := 2) (heap_new1 wr (.cells #[.int .i64 (wn : Int), .int .i64 (mb : Int), .int .i64 x.pay] 99)) rfl
            rw [hW5] at hb5 z0 z1 z2 ⊢
            have z9 := below_cell hb5 g9
            have y0 := extB_cell z0
            have y1 := extB_cell z1
            have y9 := extB_cell z9
            have HB5 := Lib.hid hb5
            have Z0 := Lib.hid z0
            have Z1 := Lib.hid z1
            have Z2 := Lib.hid z2
            clear hW5 hb5 z0 z1 z2 z9 g8 g9 e1 e2 e3
            refine wp_region_ext (by kernel_rfl) (by kernel_rfl) ?_
            repeat (go_big_quiet_step ((go_at_call 65; exact ext_same (H102.out _))))
            refine wpQuiet_nil ?_
            rintro _ ⟨t1, rfl⟩
            clear y0 y1 y9
            have HB6 := Lib.hid (extB_below W5 t1)
            have q0 := below_cell HB6.out Z0.out
            have q1 := below_cell HB6.out Z1.out
            have q2 := below_cell HB6.out Z2.out
            obtain ⟨W6, hW6⟩ : ∃ W6, extB W5 t1 = W6 := ⟨_, rfl⟩
            rw [hW6] at HB6 q0 q1 q2 ⊢
            clear hW6
            go_wp2_with (fail)
            go_ret
            exact ⟨by rw [HNO.out]; rfl, hb0to B1.out (hb0to hb.out (hb0to HB5.out HB6.out))⟩
        · have HNO := Lib.hid (br_no HI.out (fun hs => hB (HIF.1 hs).2.1))
          have hd2 : (bits BinOp.and IntKind.i64 (v : Int) (mb : Int) != 0) = true := by rw [HAN, bne_iff_ne]; omega
          clear hhas hA hB HIF HAN HAD
          as_aux_lemma =>
          go_upto_region 7 with (fail)
          obtain ⟨W5, hW5⟩ : ∃ W5, wr.alloc (.cells #[.int .i64 (wn : Int), .int .i64 (mb : Int), .int .i64 x.pay] 99) = W5 := ⟨_, rfl⟩
          have hb5 := al_below wr (.cells #[.int .i64 (wn : Int), .int .i64 (mb : Int), .int .i64 x.pay] 99)
          have z0 := cell_of_heap (o := 0) (heap_new1 wr (.cells #[.int .i64 (wn : Int), .int .i64 (mb : Int), .int .i64 x.pay] 99)) rfl
          have z1 := cell_of_heap (o := 1) (heap_new1 wr (.cells #[.int .i64 (wn : Int), .int .i64 (mb : Int), .int .i64 x.pay] 99)) rfl
          have z2 := cell_of_heap (o := 2) (heap_new1 wr (.cells #[.int .i64 (wn : Int), .int .i64 (mb : Int), .int .i64 x.pay] 99)) rfl
          rw [hW5] at hb5 z0 z1 z2 ⊢
          have z9 := below_cell hb5 g9
          have y0 := extB_cell z0
          have y1 := extB_cell z1
          have y9 := extB_cell z9
          have HB5 := Lib.hid hb5
          have Z0 := Lib.hid z0
          have Z1 := Lib.hid z1
          have Z2 := Lib.hid z2
          clear hW5 hb5 z0 z1 z2 z9 g8 g9 e1 e2 e3
          refine wp_region_ext (by kernel_rfl) (by kernel_rfl) ?_
          repeat (go_big_quiet_step ((go_at_call 65; exact ext_same (H102.out _))))
          refine wpQuiet_nil ?_
          rintro _ ⟨t1, rfl⟩
          clear y0 y1 y9
          have HB6 := Lib.hid (extB_below W5 t1)
          have q0 := below_cell HB6.out Z0.out
          have q1 := below_cell HB6.out Z1.out
          have q2 := below_cell HB6.out Z2.out
          obtain ⟨W6, hW6⟩ : ∃ W6, extB W5 t1 = W6 := ⟨_, rfl⟩
          rw [hW6] at HB6 q0 q1 q2 ⊢
          clear hW6
          go_wp2_with (fail)
          go_ret
          exact ⟨by rw [HNO.out]; rfl, hb0to B1.out (hb0to hb.out (hb0to HB5.out HB6.out))⟩
      · rw [hA] at hhas
        have H102 := Lib.hid hhas
        have HNO := Lib.hid (br_no HI.out (fun hs => by rw [(HIF.1 hs).1] at hA; cases hA))
        clear hhas hA HIF HAN HAD
        as_aux_lemma =>
        go_upto_region 7 with (fail)
        obtain ⟨W5, hW5⟩ : ∃ W5, wr.alloc (.cells #[.int .i64 (wn : Int), .int .i64 (mb : Int), .int .i64 x.pay] 99) = W5 := ⟨_, rfl⟩
        have hb5 := al_below wr (.cells #[.int .i64 (wn : Int), .int .i64 (mb : Int), .int .i64 x.pay] 99)
        have z0 := cell_of_heap (o := 0) (heap_new1 wr (.cells #[.int .i64 (wn : Int), .int .i64 (mb : Int), .int .i64 x.pay] 99)) rfl
        have z1 := cell_of_heap (o := 1) (heap_new1 wr (.cells #[.int .i64 (wn : Int), .int .i64 (mb : Int), .int .i64 x.pay] 99)) rfl
        have z2 := cell_of_heap (o := 2) (heap_new1 wr (.cells #[.int .i64 (wn : Int), .int .i64 (mb : Int), .int .i64 x.pay] 99)) rfl
        rw [hW5] at hb5 z0 z1 z2 ⊢
        have z9 := below_cell hb5 g9
        have y0 := extB_cell z0
        have y1 := extB_cell z1
        have y9 := extB_cell z9
        have HB5 := Lib.hid hb5
        have Z0 := Lib.hid z0
        have Z1 := Lib.hid z1
        have Z2 := Lib.hid z2
        clear hW5 hb5 z0 z1 z2 z9 g8 g9 e1 e2 e3
        refine wp_region_ext (by kernel_rfl) (by kernel_rfl) ?_
        repeat (go_big_quiet_step ((go_at_call 65; exact ext_same (H102.out _))))
        refine wpQuiet_nil ?_
        rintro _ ⟨t1, rfl⟩
        clear y0 y1 y9
        have HB6 := Lib.hid (extB_below W5 t1)
        have q0 := below_cell HB6.out Z0.out
        have q1 := below_cell HB6.out Z1.out
        have q2 := below_cell HB6.out Z2.out
        obtain ⟨W6, hW6⟩ : ∃ W6, extB W5 t1 = W6 := ⟨_, rfl⟩
        rw [hW6] at HB6 q0 q1 q2 ⊢
        clear hW6
        go_wp2_with (fail)
        go_ret
        exact ⟨by rw [HNO.out]; rfl, hb0to B1.out (hb0to hb.out (hb0to HB5.out HB6.out))⟩
    · obtain rfl : k = l.length := by omega
      have hbr2 := hbr.out
      rw [List.take_length] at hbr2
      have HQ := Lib.hid (show brV f.q rd l = n by rw [brV_yes hbr2.sale, hbr2.val])
      clear hbr hbr2
      go_wp2_with (fail)
      go_ret
      exact ⟨by rw [HQ.out]; rfl, hb0to B1.out hb.out⟩


end Go.Proofs.YtmbcpmnigggbaabGreat
namespace Go.Proofs.YtmbcpmnigggbaabGreat
open Go.RowKit

/-! Compare 107, Clone 96, Or 106. -/
def cmpN (x y : Int) : Int := if x < y then -1 else if y < x then 1 else 0
def cmpI : List Int → List Int → Int
  | [], [] => 0
  | [], _ :: _ => -1
  | _ :: _, [] => 1
  | x :: a, y :: b => if x = y then cmpI a b else cmpN x y
theorem isNaN_any (x : Int) (w : World) : Calls Tryz.prog 100 #[.int .i64 x] w fun e w' => e = .returned (.bool false) ∧ w = w' := by
  go_enter Tryz.func100, Tryz.ntmps100
  go_wp2_with (fail)
  go_ret
  exact ⟨by simp [go_sem], rfl⟩
theorem cmp_any (x y : Int) (w : World) : Calls Tryz.prog 88 #[.int .i64 x, .int .i64 y] w fun e w' => e = .returned (.int .i64 (cmpN x y)) ∧ w = w' := by
  have hway : (x < y ∧ cmpN x y = -1) ∨ (¬ x < y ∧ y < x ∧ cmpN x y = 1) ∨ (¬ x < y ∧ ¬ y < x ∧ cmpN x y = 0) := by
    unfold cmpN
    by_cases a : x < y
    · exact .inl ⟨a, if_pos a⟩
    · by_cases b : y < x
      · exact .inr (.inl ⟨a, b, by rw [if_neg a, if_pos b]⟩)
      · exact .inr (.inr ⟨a, b, by rw [if_neg a, if_neg b]⟩)
  rcases hway with ⟨a, q⟩ | ⟨a, b, q⟩ | ⟨a, b, q⟩
  all_goals
    have HQ := Lib.hid q
    clear q
    go_enter Tryz.func88, Tryz.ntmps88
    go_wp2_with (go_at_call 100; refine (isNaN_any _ _).mono ?_; rintro e w' ⟨rfl, rfl⟩)
    go_ret
    exact ⟨by rw [HQ.out]; rfl, rfl⟩
theorem cmpI_same : ∀ (f : List Int) (a b : List Int), cmpI (f ++ a) (f ++ b) = cmpI a b
  | [], _, _ => rfl
  | x :: f, a, b => by simp only [List.cons_append, cmpI, if_true]; exact cmpI_same f a b
theorem cmpI_split {a b : List Int} {k : Nat} (h : a.take k = b.take k) : cmpI a b = cmpI (a.drop k) (b.drop k) := by
  have e := cmpI_same (a.take k) (a.drop k) (b.drop k)
  rw [List.take_append_drop, h, List.take_append_drop] at e
  exact e
set_option maxRecDepth 100000 in
set_option maxHeartbeats 4000000 in
theorem compare_any (a b : List Int) (A B : Option Addr) (ca cb : Nat) (ha : a.length ≤ 1000) (hb : b.length ≤ 1000) (w : World) (hI : IntsAt w w.heap.size A a) (hJ : IntsAt w w.heap.size B b) :
    Calls Tryz.prog 69 #[.slice A a.length ca, .slice B b.length cb] w fun e w' => e = .returned (.int .i64 (cmpI a b)) ∧ w = w' := by
  have HI := Lib.hid hI
  have HJ := Lib.hid hJ
  clear hI hJ
  go_enter Tryz.func69, Tryz.ntmps69
  go_wp2_with (fail)
  go_loop [11] (fun i => ∃ k : Nat, k ≤ a.length ∧ i = .int .i64 k ∧ k ≤ b.length ∧ Hid (a.take k = b.take k)) (fun i => a.length - (intOf i).toNat)
  case atStart => exact ⟨0, Nat.zero_le _, rfl, Nat.zero_le _, Lib.hid rfl⟩
  case round =>
    obtain ⟨k, hk, rfl, hkb, hT⟩ := hrel
    by_cases hlt : k < a.length
    · obtain ⟨x, hx⟩ : ∃ x, a[k]? = some x := ⟨_, List.getElem?_eq_getElem hlt⟩
      obtain ⟨bi, oi, eA, blt, d1⟩ := HI.out.at_ hx
      have HX := Lib.hid hx
      subst eA
      clear hx
      by_cases hlb : k < b.length
      · obtain ⟨y, hy⟩ : ∃ y, b[k]? = some y := ⟨_, List.getElem?_eq_getElem hlb⟩
        obtain ⟨bj, oj, eB, blt2, d2⟩ := HJ.out.at_ hy
        have HY := Lib.hid hy
        subst eB
        clear hy
        have hlbn : decide ((b.length : Int) ≤ (k : Int)) = false := decide_eq_false (by omega)
        by_cases hxy : x = y
        · have HC := Lib.hid (fun w => show Calls Tryz.prog 88 #[.int .i64 x, .int .i64 y] w fun e w' => e = .returned (.int .i64 0) ∧ w = w' by
            have := cmp_any x y w
            rw [show cmpN x y = 0 by unfold cmpN; rw [if_neg (by omega), if_neg (by omega)]] at this; exact this)
          have HT2 := Lib.hid (show a.take (k + 1) = b.take (k + 1) by rw [List.take_add_one, List.take_add_one, HX.out, HY.out, hT.out, hxy])
          clear hxy
          as_aux_lemma =>
          go_wp2_with (go_at_call 88; refine (HC.out _).mono ?_; rintro e w' ⟨rfl, rfl⟩)
          go_round
          case rel => exact ⟨k + 1, by omega, by go_num, by omega, HT2⟩
          case measure => simp [intOf]; omega
        · have HC := Lib.hid (fun w => cmp_any x y w)
          have hn : (cmpN x y != 0) = true := by rw [bne_iff_ne]; unfold cmpN; split <;> (try split) <;> omega
          have HQ := Lib.hid (show cmpI a b = cmpN x y by
            rw [cmpI_split hT.out]
            obtain ⟨h1, e1⟩ := List.getElem?_eq_some_iff.1 HX.out
            obtain ⟨h2, e2⟩ := List.getElem?_eq_some_iff.1 HY.out
            rw [List.drop_eq_getElem_cons h1, List.drop_eq_getElem_cons h2, e1, e2, cmpI, if_neg hxy])
          clear hxy
          generalize cmpN x y = r at HC hn HQ
          as_aux_lemma =>
          go_wp2_with (go_at_call 88; refine (HC.out _).mono ?_; rintro e w' ⟨rfl, rfl⟩)
          go_ret
          exact ⟨by rw [HQ.out]; rfl, rfl⟩
      · have hlbn : decide ((b.length : Int) ≤ (k : Int)) = true := decide_eq_true (by omega)
        have HQ := Lib.hid (show cmpI a b = 1 by
          rw [cmpI_split hT.out]
          obtain ⟨h1, e1⟩ := List.getElem?_eq_some_iff.1 HX.out
          rw [List.drop_eq_getElem_cons h1, List.drop_eq_nil_of_le (show b.length ≤ k by omega)]; rfl)
        as_aux_lemma =>
        go_wp2_with (fail)
        go_ret
        exact ⟨by rw [HQ.out]; rfl, rfl⟩
    · obtain rfl : k = a.length := by omega
      by_cases hlb : a.length < b.length
      · have HQ := Lib.hid (show cmpI a b = -1 by
          rw [cmpI_split hT.out, List.drop_length, List.drop_eq_getElem_cons hlb]; rfl)
        as_aux_lemma =>
        go_wp2_with (fail)
        go_ret
        exact ⟨by rw [HQ.out]; rfl, rfl⟩
      · have HQ := Lib.hid (show cmpI a b = 0 by
          rw [cmpI_split hT.out, List.drop_length, List.drop_eq_nil_of_le (show b.length ≤ a.length by omega)]; rfl)
        as_aux_lemma =>
        go_wp2_with (fail)
        go_ret
        exact ⟨by rw [HQ.out]; rfl, rfl⟩
theorem cmpI_earlier : ∀ (a b : List Nat), a.length = b.length → (cmpI (intsN a) (intsN b) < 0 ↔ earlierN a b = true)
  | [], [], _ => by simp [intsN, cmpI, earlierN]
  | x :: a, y :: b, h => by
    have ih := cmpI_earlier a b (by simpa using h)
    simp only [intsN, List.map_cons, cmpI, earlierN] at ih ⊢
    by_cases e : x = y
    · subst e; rw [if_pos rfl, if_pos rfl]; exact ih
    · rw [if_neg (by omega), if_neg e]
      unfold cmpN
      rw [decide_eq_true_eq]
      by_cases hl : (x : Int) < y
      · rw [if_pos hl]; omega
      · rw [if_neg hl]; split <;> omega
/-- The first number that is not 0. -/
def orI (x y : Int) : Int := if x = 0 then y else x
theorem or_ahead (a b : List Nat) : orI ((a.length : Int) - b.length) (cmpI (intsN a) (intsN b)) < 0 ↔ aheadP a b := by
  unfold orI aheadP
  by_cases h : a.length = b.length
  · rw [if_pos (by omega), cmpI_earlier a b h]
    constructor
    · exact fun e => .inr ⟨h, e⟩
    · rintro (e | ⟨_, e⟩)
      · omega
      · exact e
  · rw [if_neg (by omega)]
    constructor
    · exact fun e => .inl (by omega)
    · rintro (e | ⟨e, _⟩)
      · omega
      · exact absurd e h
set_option maxRecDepth 100000 in
set_option maxHeartbeats 4000000 in
theorem or_any (x y : Int) (g c : Nat) (w : World) (h0 : w.cell? ⟨g, 0, none⟩ = some (.int .i64 x)) (h1 : w.cell? ⟨g, 1, none⟩ = some (.int .i64 y)) :
    Calls Tryz.prog 68 #[.slice (some ⟨g, 0, none⟩) 2 c] w fun e w' => e = .returned (.int .i64 (orI x y)) ∧ w = w' := by
  go_enter Tryz.func68, Tryz.ntmps68
  go_wp2_with (fail)
  go_loop [8] (fun i => ∃ k : Nat, k ≤ 2 ∧ i = .int .i64 k ∧ Hid ((0 < k → x = 0) ∧ (1 < k → y = 0))) (fun i => 2 - (intOf i).toNat)
  case atStart => exact ⟨0, by omega, rfl, Lib.hid ⟨fun h => by omega, fun h => by omega⟩⟩
  case round =>
    obtain ⟨k, hk, rfl, hq⟩ := hrel
    have hk3 : k = 0 ∨ k = 1 ∨ k = 2 := by omega
    rcases hk3 with rfl | rfl | rfl
    · by_cases hx : x = 0
      · have hd : (x != 0) = false := by simp [hx]
        have HX := Lib.hid hx
        clear hx
        go_wp2_with (fail)
        go_round
        case rel => exact ⟨1, by omega, rfl, Lib.hid ⟨fun _ => HX.out, fun h => by omega⟩⟩
        case measure => simp [intOf]
      · have hd : (x != 0) = true := by simp [hx]
        have HQ := Lib.hid (show orI x y = x from if_neg hx)
        clear hx
        go_wp2_with (fail)
        go_ret
        exact ⟨by rw [HQ.out]; rfl, rfl⟩
    · have HX := Lib.hid (hq.out.1 (by omega))
      have HQ := Lib.hid (show orI x y = y from if_pos HX.out)
      by_cases hy : y = 0
      · have hd : (y != 0) = false := by simp [hy]
        have HY := Lib.hid hy
        clear hy
        go_wp2_with (fail)
        go_round
        case rel => exact ⟨2, by omega, rfl, Lib.hid ⟨fun _ => HX.out, fun _ => HY.out⟩⟩
        case measure => simp [intOf]
      · have hd : (y != 0) = true := by simp [hy]
        clear hy
        go_wp2_with (fail)
        go_ret
        exact ⟨by rw [HQ.out]; rfl, rfl⟩
    · have HQ := Lib.hid (show orI x y = 0 by unfold orI; rw [if_pos (hq.out.1 (by omega)), hq.out.2 (by omega)])
      go_wp2_with (fail)
      go_ret
      exact ⟨by rw [HQ.out]; rfl, rfl⟩
/-! The closures: all 78, with 103, without 104, own 99; IndexFunc, ContainsFunc; none of a buyer's 100. -/
theorem all_any78 (m : Nat) (w : World) : Calls Tryz.prog 36 #[.int .i64 (m : Int)] w fun e w' => e = .returned (.bool true) ∧ w = w' := by
  go_enter Tryz.func36, Tryz.ntmps36
  go_wp2_with (fail)
  go_ret
  exact ⟨rfl, rfl⟩
theorem with1_any (m i : Nat) (hm : m < 256) (hi : i < 9) (g : Nat) (w : World) (hg : w.cell? ⟨g, 0, none⟩ = some (.int .i64 (i : Int))) : Calls Tryz.prog 64 #[.int .i64 (m : Int), .pointer (some ⟨g, 0, none⟩)] w fun e w' => e = .returned (.bool (withM i m)) ∧ w = w' := by
  go_enter Tryz.func64, Tryz.ntmps64
  go_wp2_with (go_at_call 65; refine (has_any m i hm hi _).mono ?_; rintro e w' ⟨rfl, rfl⟩)
  go_ret
  exact ⟨rfl, rfl⟩
theorem out1_any (m i : Nat) (hm : m < 256) (hi : i < 9) (g : Nat) (w : World) (hg : w.cell? ⟨g, 0, none⟩ = some (.int .i64 (i : Int))) : Calls Tryz.prog 66 #[.int .i64 (m : Int), .pointer (some ⟨g, 0, none⟩)] w fun e w' => e = .returned (.bool (outM i m)) ∧ w = w' := by
  go_enter Tryz.func66, Tryz.ntmps66
  go_wp2_with (go_at_call 65; refine (has_any m i hm hi _).mono ?_; rintro e w' ⟨rfl, rfl⟩)
  go_ret
  exact ⟨rfl, rfl⟩
set_option maxRecDepth 100000 in
set_option maxHeartbeats 4000000 in
theorem own1_any (F : FL) (f : Fair) (rd : List Int) (b g1 g2 i : Nat) (v : Int) (x : Bid) (hx : f.q[i]? = some x) (hql : f.q.length ≤ 8) (w : World) (hO : OpenAt w b F f rd) (h1 : w.cell? ⟨g1, 0, none⟩ = some (.pointer (some ⟨b, 0, none⟩))) (h2 : w.cell? ⟨g2, 0, none⟩ = some (.int .i64 v)) :
    Calls Tryz.prog 60 #[.int .i64 (i : Int), .pointer (some ⟨g1, 0, none⟩), .pointer (some ⟨g2, 0, none⟩)] w fun e w' => e = .returned (.bool (ownP f.q v i)) ∧ Below w.heap.size w w' := by
  obtain ⟨Al, cl, r, hOB, hLA, hR⟩ := hO.ex
  obtain ⟨lb, ol, eL, lblt, mb, hmb, d1, d2, d3⟩ := hLA.at_ hx
  subst eL
  obtain ⟨_, _, _, _, _, _, _, _, g8, _⟩ := hOB.cells
  have HQ := Lib.hid (show ownP f.q v i = (x.who == v) by rw [own_some hx]; exact (Bool.eq_iff_iff.2 (by simp)))
  have hiq := (List.getElem?_eq_some_iff.1 hx).1
  have a1 := extB_cell h1
  have a2 := extB_cell h2
  have a8 := extB_cell g8
  have ad := extB_cell d1
  clear hO hOB hLA hR hmb d1 d2 d3 g8 hx h1 h2
  go_enter Tryz.func60, Tryz.ntmps60
  go_upto_region 1 with (fail)
  refine wp_region_ext (by kernel_rfl) (by kernel_rfl) ?_
  repeat (go_big_quiet_step (fail))
  refine wpQuiet_nil ?_
  rintro _ ⟨t1, rfl⟩
  clear a1 a2 a8 ad
  have HB6 := Lib.hid (extB_below w t1)
  obtain ⟨W6, hW6⟩ : ∃ W6, extB w t1 = W6 := ⟨_, rfl⟩
  rw [hW6] at HB6 ⊢
  clear hW6
  go_wp2_with (fail)
  go_ret
  exact ⟨by rw [HQ.out]; rfl, HB6.out⟩

open Go.RowKit

/-! IndexFunc and ContainsFunc of a buyer's bids; pays$2 100; the iterator sales 105. -/
def ownI (q : List Bid) (v : Int) (x : Int) : Bool := ownP q v x.toNat
theorem ownI_any (q : List Bid) (v : Int) (l : List Nat) : (intsN l).any (ownI q v) = l.any (ownP q v) := by
  unfold intsN
  rw [List.any_map]
  rfl
set_option maxRecDepth 100000 in
set_option maxHeartbeats 4000000 in
theorem index_own (F : FL) (f : Fair) (rd : List Int) (b g1 g2 : Nat) (v : Int) (hql : f.q.length ≤ 8) (A : Option Addr) (c : Nat) (l : List Nat) (hl : l.length ≤ 8) (hin : ∀ i ∈ l, i < f.q.length) (w : World) (hI : IntsAt w w.heap.size A (intsN l)) (hO : OpenAt w b F f rd) (h1 : w.cell? ⟨g1, 0, none⟩ = some (.pointer (some ⟨b, 0, none⟩))) (h2 : w.cell? ⟨g2, 0, none⟩ = some (.int .i64 v)) :
    Calls Tryz.prog 85 #[.slice A l.length c, .func (.func 60) #[] #[.pointer (some ⟨g1, 0, none⟩), .pointer (some ⟨g2, 0, none⟩)]] w fun e w' => e = .returned (.int .i64 (firstB (ownI f.q v) (intsN l) 0)) ∧ Below w.heap.size w w' := by
  have HI := Lib.hid hI
  have HO := Lib.hid hO
  have H1 := Lib.hid h1
  have H2 := Lib.hid h2
  have HIN := Lib.hid hin
  clear hI hO h1 h2 hin
  go_enter Tryz.func85, Tryz.ntmps85
  go_wp2_with (fail)
  go_loopw [5, 8] (fun _ i wr => ∃ k : Nat, k ≤ l.length ∧ i = .int .i64 k ∧ Hid (firstB (ownI f.q v) (intsN l) 0 = firstB (ownI f.q v) ((intsN l).drop k) k) ∧ Below w.heap.size w wr) (fun _ i _ => l.length - (intOf i).toNat)
  case atStart => exact ⟨0, Nat.zero_le _, rfl, Lib.hid (by rw [List.drop_zero]), Below.refl _ _⟩
  case round =>
    obtain ⟨k, hk, rfl, hF, hb⟩ := hrel
    by_cases hlt : k < l.length
    · obtain ⟨i, hi⟩ : ∃ i, l[k]? = some i := ⟨_, List.getElem?_eq_getElem hlt⟩
      have hiq := HIN.out i (List.mem_of_getElem? hi)
      obtain ⟨x, hx⟩ : ∃ x, f.q[i]? = some x := ⟨_, List.getElem?_eq_getElem hiq⟩
      have hi2 := intsN_at hi
      obtain ⟨b1, o1, rfl, b1lt, d1⟩ := HI.out.at_ hi2
      have d2 := below_cell hb d1
      have H99 := Lib.hid (own1_any F f rd b g1 g2 i v x hx hql wr (HO.out.below hb) (below_cell hb H1.out) (below_cell hb H2.out))
      have HX := Lib.hid hi2
      clear hi hx d1 hi2
      have hsz := hb.size
      cases hp : ownP f.q v i
      · rw [hp] at H99
        have HPX := Lib.hid (show ownI f.q v (i : Int) = false by unfold ownI; rw [Int.toNat_natCast]; exact hp)
        clear hp
        go_wp2_with (go_at_call 60; refine H99.out.mono ?_; rintro e W5 ⟨rfl, hb5⟩)
        go_roundw
        case rel => exact ⟨k + 1, by omega, by go_num, Lib.hid (by rw [hF.out]; exact firstB_no HX.out HPX.out), hb.trans (hb5.mono hsz)⟩
        case measure => simp [intOf]; omega
      · rw [hp] at H99
        have HPX := Lib.hid (show ownI f.q v (i : Int) = true by unfold ownI; rw [Int.toNat_natCast]; exact hp)
        clear hp
        go_wp2_with (go_at_call 60; refine H99.out.mono ?_; rintro e W5 ⟨rfl, hb5⟩)
        go_ret
        exact ⟨by rw [hF.out, firstB_yes HX.out HPX.out]; rfl, hb.trans (hb5.mono hsz)⟩
    · obtain rfl : k = l.length := by omega
      have HE := Lib.hid (show firstB (ownI f.q v) ((intsN l).drop l.length) l.length = -1 by rw [← intsN_len l]; exact firstB_end)
      go_wp2_with (fail)
      go_ret
      exact ⟨by rw [hF.out, HE.out]; rfl, hb⟩
theorem contains_own (F : FL) (f : Fair) (rd : List Int) (b g1 g2 : Nat) (v : Int) (hql : f.q.length ≤ 8) (A : Option Addr) (c : Nat) (l : List Nat) (hl : l.length ≤ 8) (hin : ∀ i ∈ l, i < f.q.length) (w : World) (hI : IntsAt w w.heap.size A (intsN l)) (hO : OpenAt w b F f rd) (h1 : w.cell? ⟨g1, 0, none⟩ = some (.pointer (some ⟨b, 0, none⟩))) (h2 : w.cell? ⟨g2, 0, none⟩ = some (.int .i64 v)) :
    Calls Tryz.prog 62 #[.slice A l.length c, .func (.func 60) #[] #[.pointer (some ⟨g1, 0, none⟩), .pointer (some ⟨g2, 0, none⟩)]] w fun e w' => e = .returned (.bool (l.any (ownP f.q v))) ∧ Below w.heap.size w w' := by
  rw [← ownI_any, ← firstB_any (ownI f.q v) (intsN l) 0]
  go_enter Tryz.func62, Tryz.ntmps62
  go_wp2_with (go_at_call 85; refine (index_own F f rd b g1 g2 v hql A c l hl hin _ hI hO h1 h2).mono ?_; rintro e w' ⟨rfl, hb⟩)
  go_ret
  exact ⟨rfl, hb⟩
set_option maxRecDepth 100000 in
set_option maxHeartbeats 4000000 in
theorem none2_any (F : FL) (f : Fair) (hf : FOK f) (rd : List Int) (b g1 g2 g3 : Nat) (v : Int) (m : Nat) (hm : m < 2 ^ f.q.length) (w : World) (hO : OpenAt w b F f rd) (h1 : w.cell? ⟨g1, 0, none⟩ = some (.pointer (some ⟨b, 0, none⟩))) (h2 : w.cell? ⟨g2, 0, none⟩ = some (.int .i64 v)) (h3 : w.cell? ⟨g3, 0, none⟩ = some (.func (.func 60) #[] #[.pointer (some ⟨g1, 0, none⟩), .pointer (some ⟨g2, 0, none⟩)])) :
    Calls Tryz.prog 61 #[.int .i64 (m : Int), .pointer (some ⟨g3, 0, none⟩)] w fun e w' => e = .returned (.bool (noneM f.q v m)) ∧ Below w.heap.size w w' := by
  have hm8 : m < 256 := Nat.lt_of_lt_of_le hm (pow_eight hf.ql)
  have hbe := bits_eight hf.ql hm
  have HO := Lib.hid hO
  have H1 := Lib.hid h1
  have H2 := Lib.hid h2
  have H3 := Lib.hid h3
  have hql := hf.ql
  have H69 := Lib.hid (fun W => list_any m hm8 W)
  have HIN := Lib.hid (show ∀ i ∈ bitsL 8 m, i < f.q.length from fun i hi => by rw [hbe] at hi; exact bits_lt hi)
  have HLL := Lib.hid (bits_len 8 m)
  have HQ := Lib.hid (show noneM f.q v m = !(bitsL 8 m).any (ownP f.q v) from rfl)
  obtain ⟨l, hl⟩ : ∃ l, bitsL 8 m = l := ⟨_, rfl⟩
  rw [hl] at H69 HIN HQ HLL
  clear hO h1 h2 hbe hl hf hm
  go_enter Tryz.func61, Tryz.ntmps61
  go_upto_region 1 with (fail)
  go_region_held3 (fun w' => w'.cell? ⟨g3, 0, none⟩ = some (.func (.func 60) #[] #[.pointer (some ⟨g1, 0, none⟩), .pointer (some ⟨g2, 0, none⟩)])) (first | go_keep)
    (first
      | (go_at_call 47; refine (H69.out _).mono ?_; rintro e w1 ⟨⟨v0, rfl, hv0⟩, hb1⟩; have hk1 : Below w.heap.size w w1 := (by first | exact hb1 | exact hb0to (drew_below w) hb1); have B1 := Lib.hid hk1; obtain ⟨A1, c1, rfl, _, _, hI1⟩ := hv0.lay; rw [intsN_len]; have HI1 := Lib.hid hI1.at_; have r3 := below_cell B1.out H3.out; clear hb1 hv0 hI1 hk1)
      | (go_at_call 62; refine (contains_own F f rd b g1 g2 v hql A1 c1 l HLL.out HIN.out w1 HI1.out (HO.out.below B1.out) (below_cell B1.out H1.out) (below_cell B1.out H2.out)).mono ?_; rintro e w2 ⟨rfl, hb2⟩; have B2 := Lib.hid (hb0to B1.out hb2); have r3 := below_cell B2.out H3.out; clear hb2))
  all_goals
    go_wp2_with (fail)
    go_ret
    exact ⟨by rw [HQ.out]; rfl, B2.out⟩

end Go.Proofs.YtmbcpmnigggbaabGreat
namespace Go.Proofs.YtmbcpmnigggbaabGreat
open Go.RowKit

attribute [local go_sem] Oper.semAt_some
/-! The iterator sales 105. -/
theorem shl8 : ∀ i : Nat, i < 9 → wrap64 (2 ^ i) = ((2 ^ i : Nat) : Int) := by decide +kernel
def SeesN (q : List Bid) (_ : Nat) (x : Nat) (args : Array Value) (_ : World) : Prop := args = #[.int .i64 (x : Int), .int .i64 (bringsL q (bitsL q.length x))]
set_option maxRecDepth 100000 in
set_option maxHeartbeats 4000000 in
theorem sales_makes (n : Nat) (F : FL) (f : Fair) (hf : FOK f) (rd : List Int) (b : Nat) (w0 w : World) (hO : OpenAt w0 b F f rd) (hb0 : Below w0.heap.size w0 w) (S : Nat → Prop) (hS : ∀ k, S k → w0.heap.size ≤ k ∧ k < w.heap.size) :
    SeqMakes Fence.wide n Tryz.prog 59 #[.pointer (some ⟨b, 0, none⟩)] #[] S (SeesN f.q) (setsL f.q rd) w := by
  intro l J Jx W hbW hJ hJx hY h0
  have HSK := Lib.hid (show ∀ k, (S k ∨ Seg w.heap.size W.heap.size k) → w0.heap.size ≤ k from fun k hk => by
    rcases hk with hk | hk
    · exact (hS k hk).1
    · have := hk.1; have := hb0.size; omega)
  have HO := Lib.hid hO
  have hbw := hb0to hb0 hbW
  have HBW := Lib.hid hbw
  have HJ := Lib.hid hJ
  have HY := Lib.hid hY
  have H0 := Lib.hid h0
  have HF := Lib.hid hf
  have hql := hf.ql
  obtain ⟨N, hN⟩ : ∃ N, N = 2 ^ f.q.length := ⟨_, rfl⟩
  have hNw : wrap64 (2 ^ f.q.length) = (N : Int) := by rw [shl8 _ (by omega), hN]
  have hN8 : N ≤ 256 := by rw [hN]; exact pow_eight hql
  obtain ⟨A, cl, u, hOB, _, _⟩ := (hO.below hbw).ex
  obtain ⟨_, _, _, _, _, _, _, _, g8, _⟩ := hOB.cells
  have HN := Lib.hid hN
  have HNW := Lib.hid hNw
  clear hO hb0 hbw hJ hJx hY h0 hf hOB hS hbW hN hNw
  refine callsIn_of_wp Tryz.func59 rfl trivial ?_ rfl
  simp only [Tryz.ntmps59, List.size_toArray, List.length_cons, List.length_nil, Nat.reduceAdd, Nat.reduceSub, Array.replicate_succ, Array.replicate_zero, List.push_toArray, List.append_toArray, List.nil_append, List.cons_append]
  gi_wp2_with (fail)
  rw [HNW.out]
  clear HNW
  gi_loopw [12] (fun i wr => ∃ k : Nat, k ≤ N ∧ i = .int .i64 k ∧ Hid (J (setsTo f.q rd k) wr) ∧ Hid (Below w0.heap.size w0 wr) ∧ Hid (W.heap.size ≤ wr.heap.size)) (fun i _ => N - (intOf i).toNat)
  case atStart => exact ⟨0, Nat.zero_le _, rfl, Lib.hid H0.out, HBW, Lib.hid (Nat.le_refl _)⟩
  case round =>
    obtain ⟨k, hk, rfl, hJk, hb, hsz⟩ := hrel
    by_cases hlt : k < N
    · have H91 := Lib.hid (brings_any F f HF.out rd b k (by rw [← HN.out]; exact hlt) wr (HO.out.below hb.out))
      have HT := Lib.hid (setsTo_succ f.q rd k)
      have HPR := Lib.hid (show setsTo f.q rd (k + 1) <+: setsL f.q rd from by
        have := setsTo_pre f.q rd (show k + 1 ≤ N by omega)
        rw [HN.out] at this; exact this)
      cases hs : saleB f.q rd (bitsL f.q.length k)
      · rw [show brV f.q rd (bitsL f.q.length k) = -1 by unfold brV; rw [hs]; rfl] at H91
        rw [hs] at HT
        clear hs
        gi_wp2_with (refine ⟨trivial, (fun h => by cases h), ?_⟩; gi_at_call 84; refine (CallsIn.mono (callsIn_wide.2 H91.out) ?_); rintro e W1 ⟨rfl, hb1⟩; have HB1 := Lib.hid hb1; clear hb1)
        refine ⟨fun _ h => (by cases h), ?_⟩
        gi_wp2_with (fail)
        go_roundw
        case rel => exact ⟨k + 1, by omega, by go_num, Lib.hid (by rw [HT.out]; simp only [Bool.false_eq_true, if_false, List.append_nil]; exact HJ.out _ _ _ hsz.out hJk.out HB1.out), Lib.hid (hb0to hb.out HB1.out), Lib.hid (Nat.le_trans hsz.out HB1.out.size)⟩
        case measure => simp [intOf]; omega
      · have hsl := saleB_iff.1 hs
        rw [brV_yes hsl] at H91
        rw [hs, if_pos rfl] at HT
        have hz0 := brings_nonneg HF.out.pos (bitsL f.q.length k)
        have hY2 := fun X (h1 : W.heap.size ≤ X.heap.size) (h2 : J (setsTo f.q rd k) X) => HY.out (setsTo f.q rd k) k #[.int .i64 (k : Int), .int .i64 (bringsL f.q (bitsL f.q.length k))] X h1 h2 rfl (by rw [← HT.out]; exact HPR.out)
        rw [← HT.out] at hY2
        have HY2 := Lib.hid hY2
        clear hs hsl hY2
        obtain ⟨z, hz⟩ : ∃ z, z = bringsL f.q (bitsL f.q.length k) := ⟨_, rfl⟩
        rw [← hz] at H91 hz0 HY2
        clear hz
        have hd : decide (0 ≤ z) = true := decide_eq_true hz0
        gi_wp2_with (refine ⟨trivial, (fun h => by cases h), ?_⟩; gi_at_call 84; refine (CallsIn.mono (callsIn_wide.2 H91.out) ?_); rintro e W1 ⟨rfl, hb1⟩; have HB1 := Lib.hid hb1; clear hb1; obtain ⟨fn, tmps, assign, body, hy, hR⟩ := HY2.out W1 (Nat.le_trans hsz.out HB1.out.size) (HJ.out _ _ _ hsz.out hJk.out HB1.out); have HR := Lib.hid hR; clear hR)
        refine ⟨(fun h => by cases h), HR.out.mono ?_⟩
        clear HR hy
        rintro e X' ⟨hk2, (⟨rfl, hj2⟩ | ⟨rfl, hj2⟩)⟩
        · have HJ2 := Lib.hid hj2
          have HK2 := Lib.hid hk2
          clear hj2 hk2
          gi_wp2_with (fail)
          go_roundw
          case rel => exact ⟨k + 1, by omega, by go_num, HJ2, Lib.hid ((hb0to hb.out HB1.out).trans (HK2.out.belowOf (hb0to hb.out HB1.out).size HSK.out)), Lib.hid (Nat.le_trans hsz.out (Nat.le_trans HB1.out.size HK2.out.size))⟩
          case measure => simp [intOf]; omega
        · have HJ2 := Lib.hid hj2
          have HK2 := Lib.hid hk2
          clear hj2 hk2
          gi_wp2_with (fail)
          refine bodyPost_ret (results_none rfl _ _ _) rfl ?_
          exact ⟨⟨_, rfl⟩, Nat.le_trans hsz.out (Nat.le_trans HB1.out.size HK2.out.size), .inr ⟨_, HPR.out, HJ2.out⟩⟩
    · obtain rfl : k = N := by omega
      have HJN := Lib.hid hJk.out
      rw [HN.out] at HJN
      gi_wp2_with (fail)
      go_end0
      exact ⟨⟨_, rfl⟩, hsz.out, .inl HJN.out⟩

end Go.Proofs.YtmbcpmnigggbaabGreat
namespace Go.Proofs.YtmbcpmnigggbaabGreat
open Go.RowKit

attribute [local go_sem] Oper.semAt_some
/-! most 77, with each function that is handed to it. -/
/-- What most knows between two rounds. -/
structure MostI (w : World) (fv : Value) (n : Int) (X : World) : Prop where
  bl : Below w.heap.size w X
  s : X.heap[w.heap.size]? = some (.cells #[fv] 82 (0, 0))
  n : X.heap[w.heap.size + 1]? = some (.cells #[.int .i64 n] 3 (0, 0))
theorem MostI.kp {w : World} {fv : Value} {n : Int} {X Y : World} (h : MostI w fv n X) {S : Nat → Prop} (hk : KpB S X.heap.size X Y) (hS : ∀ k, S k → w.heap.size + 2 ≤ k) : MostI w fv n Y :=
  ⟨h.bl.trans (hk.belowOf h.bl.size (fun k hs => by have := hS k hs; omega)), (hk.block _ (heap_lt h.s) (fun hs => by have := hS _ hs; omega)).trans h.s, (hk.block _ (heap_lt h.n) (fun hs => by have := hS _ hs; omega)).trans h.n⟩
theorem MostI.set {w : World} {fv : Value} {n : Int} {X : World} (h : MostI w fv n X) (m : Int) : MostI w fv m (X.setCell ⟨w.heap.size + 1, 0, none⟩ (.int .i64 m)) :=
  ⟨h.bl.setCell (by show w.heap.size ≤ w.heap.size + 1; omega) _, (set_other_heap (heap_lt h.s) (by omega)).trans h.s, heap_set _ h.n⟩
set_option maxRecDepth 100000 in
set_option maxHeartbeats 4000000 in
theorem most_78 (F : FL) (f : Fair) (hf : FOK f) (rd : List Int) (b : Nat) (p : Nat → Bool) (w : World) (hO : OpenAt w b F f rd)
    (hP : ∀ m : Nat, m < 2 ^ f.q.length → ∀ X, Below w.heap.size w X → Calls Tryz.prog 36 #[.int .i64 (m : Int)] X fun e X' => e = .returned (.bool (p m)) ∧ Below X.heap.size X X') :
    Calls Tryz.prog 35 #[.pointer (some ⟨b, 0, none⟩), .func (.func 36) #[] #[]] w fun e w' => e = .returned (.int .i64 (mostTo f.q p (setsL f.q rd))) ∧ Below w.heap.size w w' := by
  have h1 := heap_keep (o' := .cells #[.int .i64 0] 3) (heap_new1 w (.cells #[.func (.func 36) #[] #[]] 82))
  have h2 := heap_new2 w (.cells #[.func (.func 36) #[] #[]] 82) (.cells #[.int .i64 0] 3)
  have hb2 := hb0to (al_below w (.cells #[.func (.func 36) #[] #[]] 82)) (al_below _ (.cells #[.int .i64 0] 3))
  obtain ⟨W2, hW2⟩ : ∃ W2, (w.alloc (.cells #[.func (.func 36) #[] #[]] 82)).alloc (.cells #[.int .i64 0] 3) = W2 := ⟨_, rfl⟩
  rw [hW2] at h1 h2 hb2
  have q1 := cell_of_heap (o := 0) h1 rfl
  have q2 := cell_of_heap (o := 0) h2 rfl
  have q3 := frozen_of_heap h2
  have qb1 := heap_lt h1
  have qb2 := heap_lt h2
  have H1 := Lib.hid h1
  have H2 := Lib.hid h2
  have HB2 := Lib.hid hb2
  have HO := Lib.hid hO
  have HF := Lib.hid hf
  have HP := Lib.hid hP
  clear h1 h2 hb2 hO hf hP
  refine (callsIn_wide (n := 10)).1 ?_
  refine callsIn_of_wp_marks Tryz.func35 rfl trivial ?_ rfl
  simp only [Tryz.ntmps35, List.size_toArray, List.length_cons, List.length_nil, Nat.reduceAdd, Nat.reduceSub, Array.replicate_succ, Array.replicate_zero, List.push_toArray, List.append_toArray, List.nil_append, List.cons_append]
  gi_wp2_with (fail)
  have hI1 : MostI w (.func (.func 36) #[] #[]) (-1) (W2.setCell ⟨w.heap.size + 1, 0, none⟩ (.int .i64 (-1))) := ⟨HB2.out.setCell (by show w.heap.size ≤ w.heap.size + 1; omega) _, (set_other_heap (heap_lt H1.out) (by omega)).trans H1.out, heap_set _ H2.out⟩
  have hz1 : (W2.setCell ⟨w.heap.size + 1, 0, none⟩ (.int .i64 (-1))).heap.size = W2.heap.size := by simp [World.setCell]
  obtain ⟨W1, hW1⟩ : ∃ W1, W2.setCell ⟨w.heap.size + 1, 0, none⟩ (.int .i64 (-1)) = W1 := ⟨_, rfl⟩
  rw [hW1] at hI1 hz1 ⊢
  have HI1 := Lib.hid hI1
  have hzw : w.heap.size + 2 ≤ W1.heap.size := by omega
  clear hW1 q1 q2 q3 hI1 hz1 hW2
  refine wpIn_rangeFunc_makes (S := fun k => k = w.heap.size + 1) (Sees := SeesN f.q) (fb := #[.pointer (some ⟨b, 0, none⟩)]) (lb := #[]) (xs := setsL f.q rd) (w0 := W1) rfl (by omega) rfl trivial (fun _ _ => rfl)
    (sales_makes 9 F f HF.out rd b w W1 HO.out HI1.out.bl (fun k => k = w.heap.size + 1) (fun k hk => by omega)) (Below.refl _ _) (fun k hk => by omega)
    (fun B x args X hs => by cases hs; rfl) (fun B x args X Y _ hs hk => hs)
    (fun pre X => MostI w (.func (.func 36) #[] #[]) (mostTo f.q p pre) X)
    (fun c pre X => False)
    ?hI ?hIx ?h0 (fun x args a' X => a' = { tmps := #[.pointer (some ⟨b, 0, none⟩), .func (.func 36) #[] #[], undef, .pointer (some ⟨w.heap.size, 0, none⟩), .int .i64 0, .pointer (some ⟨w.heap.size + 1, 0, none⟩), args.getD 0 undef, args.getD 1 undef, .pointer (some ⟨b, 0, none⟩), .func (.func 59) #[.pointer (some ⟨b, 0, none⟩)] #[], args.getD 0 undef, args.getD 1 undef, undef, undef, undef, undef, undef, undef, undef], defers := [] }) ?hAx ?hassign ?hbody ?hdone ?hstop
  case hI =>
    intro q X Y hX h hk
    exact h.kp hk (fun k hs => by have := hs.1; omega)
  case hIx => exact fun _ _ _ _ _ h _ => h.elim
  case h0 =>
    intro X hX hb
    exact HI1.out.kp (kpB_of_below hb (S := fun _ => False)) (fun _ h => h.elim)
  case hAx => exact fun _ _ _ _ _ _ h _ => h
  case hassign =>
    intro l' x args X K hz hs hK
    cases hs
    have hK' := hK _ X (.inl rfl) rfl
    clear hK
    simp only [List.zip_toArray, List.zip_cons_cons, List.zip_nil_right, List.foldl_toArray, List.foldl_cons, List.foldl_nil, List.setIfInBounds_toArray, List.set_cons_succ, List.set_cons_zero]
    gi_wp2_with (fail)
    exact hK'
  case hbody =>
    rintro l' pre m args a' X hX hpre hI hsee rfl
    cases hsee
    have hxm := (mem_setsTo.1 (hpre.subset (List.mem_append_right _ (List.mem_singleton.2 rfl)))).1
    have H103 := HP.out m hxm X hI.bl
    have HN := Lib.hid (mostTo_snoc f.q p pre m)
    have hz0 := brings_nonneg HF.out.pos (bitsL f.q.length m)
    generalize hm : mostTo f.q p pre = n at hI HN
    generalize hv : bringsL f.q (bitsL f.q.length m) = v at HN hz0
    have e0 := cell_of_heap (o := 0) hI.s rfl
    have HI := Lib.hid hI
    clear hm hv hI
    cases hp : p m
    · rw [hp] at H103 HN
      have H103 := Lib.hid H103
      clear hp
      gi_wp2_with (refine ⟨trivial, ?_⟩; gi_at_call 36; refine (CallsIn.mono (CallsIn.inRound l' (callsIn_wide.2 H103.out)) ?_); rintro e W5 ⟨rfl, hb5⟩; have HB5 := Lib.hid hb5; clear hb5)
      refine ⟨kpB_of_below HB5.out, ?_⟩
      show MostI w (.func (.func 36) #[] #[]) (mostTo f.q p (pre ++ [m])) _
      rw [HN.out]
      exact HI.out.kp (S := fun _ => False) (kpB_of_below HB5.out) (fun _ h => h.elim)
    · rw [hp, if_pos rfl] at HN
      rw [hp] at H103
      have H103 := Lib.hid H103
      clear hp
      by_cases hlt : n < v
      · have hle : n ≤ v := by omega
        gi_wp2_with (refine ⟨trivial, ?_⟩; gi_at_call 36; refine (CallsIn.mono (CallsIn.inRound l' (callsIn_wide.2 H103.out)) ?_); rintro e W5 ⟨rfl, hb5⟩; have HB5 := Lib.hid hb5; have HI5 := Lib.hid (HI.out.kp (S := fun _ => False) (kpB_of_below hb5) (fun _ h => h.elim)); have e1 := cell_of_heap (o := 0) HI5.out.n rfl; have e2 := frozen_of_heap HI5.out.n; clear hb5)
        refine ⟨(kpB_of_below HB5.out).set _ _ (.inl rfl), ?_⟩
        show MostI w (.func (.func 36) #[] #[]) (mostTo f.q p (pre ++ [m])) _
        rw [HN.out, Int.max_eq_right hle]
        exact HI5.out.set _
      · have hle : v ≤ n := by omega
        gi_wp2_with (refine ⟨trivial, ?_⟩; gi_at_call 36; refine (CallsIn.mono (CallsIn.inRound l' (callsIn_wide.2 H103.out)) ?_); rintro e W5 ⟨rfl, hb5⟩; have HB5 := Lib.hid hb5; have HI5 := Lib.hid (HI.out.kp (S := fun _ => False) (kpB_of_below hb5) (fun _ h => h.elim)); have e1 := cell_of_heap (o := 0) HI5.out.n rfl; have e2 := frozen_of_heap HI5.out.n; clear hb5)
        refine ⟨(kpB_of_below HB5.out).set _ _ (.inl rfl), ?_⟩
        show MostI w (.func (.func 36) #[] #[]) (mostTo f.q p (pre ++ [m])) _
        rw [HN.out, Int.max_eq_left hle]
        exact HI5.out.set _
  case hdone =>
    rintro X hX hI hk
    have e1 := cell_of_heap (o := 0) hI.n rfl
    have HB := Lib.hid hI.bl
    have HK := Lib.hid hk
    clear hI hk
    gi_wp2_with (fail)
    refine ⟨by simp, .inl ⟨_, _, rfl, run_takeDeferred HK.out, ?_⟩⟩
    refine ⟨.int .i64 (mostTo f.q p (setsL f.q rd)), by simp [results, Tryz.results35, go_sem], rfl, ?_⟩
    exact HB.out.trans (KpB.belowOf (S := fun k => k = W1.heap.size) ((KpB.refl _ _ _).put _ _ (.inl rfl)) HB.out.size (fun k hk => by omega))
  case hstop => exact fun _ _ _ _ _ h => h.elim

open Go.RowKit

attribute [local go_sem] Oper.semAt_some
set_option maxRecDepth 100000 in
set_option maxHeartbeats 4000000 in
theorem most_103 (F : FL) (f : Fair) (hf : FOK f) (rd : List Int) (b : Nat) (g : Nat) (p : Nat → Bool) (w : World) (hO : OpenAt w b F f rd)
    (hP : ∀ m : Nat, m < 2 ^ f.q.length → ∀ X, Below w.heap.size w X → Calls Tryz.prog 64 #[.int .i64 (m : Int), .pointer (some ⟨g, 0, none⟩)] X fun e X' => e = .returned (.bool (p m)) ∧ Below X.heap.size X X') :
    Calls Tryz.prog 35 #[.pointer (some ⟨b, 0, none⟩), .func (.func 64) #[] #[.pointer (some ⟨g, 0, none⟩)]] w fun e w' => e = .returned (.int .i64 (mostTo f.q p (setsL f.q rd))) ∧ Below w.heap.size w w' := by
  have h1 := heap_keep (o' := .cells #[.int .i64 0] 3) (heap_new1 w (.cells #[.func (.func 64) #[] #[.pointer (some ⟨g, 0, none⟩)]] 82))
  have h2 := heap_new2 w (.cells #[.func (.func 64) #[] #[.pointer (some ⟨g, 0, none⟩)]] 82) (.cells #[.int .i64 0] 3)
  have hb2 := hb0to (al_below w (.cells #[.func (.func 64) #[] #[.pointer (some ⟨g, 0, none⟩)]] 82)) (al_below _ (.cells #[.int .i64 0] 3))
  obtain ⟨W2, hW2⟩ : ∃ W2, (w.alloc (.cells #[.func (.func 64) #[] #[.pointer (some ⟨g, 0, none⟩)]] 82)).alloc (.cells #[.int .i64 0] 3) = W2 := ⟨_, rfl⟩
  rw [hW2] at h1 h2 hb2
  have q1 := cell_of_heap (o := 0) h1 rfl
  have q2 := cell_of_heap (o := 0) h2 rfl
  have q3 := frozen_of_heap h2
  have qb1 := heap_lt h1
  have qb2 := heap_lt h2
  have H1 := Lib.hid h1
  have H2 := Lib.hid h2
  have HB2 := Lib.hid hb2
  have HO := Lib.hid hO
  have HF := Lib.hid hf
  have HP := Lib.hid hP
  clear h1 h2 hb2 hO hf hP
  refine (callsIn_wide (n := 10)).1 ?_
  refine callsIn_of_wp_marks Tryz.func35 rfl trivial ?_ rfl
  simp only [Tryz.ntmps35, List.size_toArray, List.length_cons, List.length_nil, Nat.reduceAdd, Nat.reduceSub, Array.replicate_succ, Array.replicate_zero, List.push_toArray, List.append_toArray, List.nil_append, List.cons_append]
  gi_wp2_with (fail)
  have hI1 : MostI w (.func (.func 64) #[] #[.pointer (some ⟨g, 0, none⟩)]) (-1) (W2.setCell ⟨w.heap.size + 1, 0, none⟩ (.int .i64 (-1))) := ⟨HB2.out.setCell (by show w.heap.size ≤ w.heap.size + 1; omega) _, (set_other_heap (heap_lt H1.out) (by omega)).trans H1.out, heap_set _ H2.out⟩
  have hz1 : (W2.setCell ⟨w.heap.size + 1, 0, none⟩ (.int .i64 (-1))).heap.size = W2.heap.size := by simp [World.setCell]
  obtain ⟨W1, hW1⟩ : ∃ W1, W2.setCell ⟨w.heap.size + 1, 0, none⟩ (.int .i64 (-1)) = W1 := ⟨_, rfl⟩
  rw [hW1] at hI1 hz1 ⊢
  have HI1 := Lib.hid hI1
  have hzw : w.heap.size + 2 ≤ W1.heap.size := by omega
  clear hW1 q1 q2 q3 hI1 hz1 hW2
  refine wpIn_rangeFunc_makes (S := fun k => k = w.heap.size + 1) (Sees := SeesN f.q) (fb := #[.pointer (some ⟨b, 0, none⟩)]) (lb := #[]) (xs := setsL f.q rd) (w0 := W1) rfl (by omega) rfl trivial (fun _ _ => rfl)
    (sales_makes 9 F f HF.out rd b w W1 HO.out HI1.out.bl (fun k => k = w.heap.size + 1) (fun k hk => by omega)) (Below.refl _ _) (fun k hk => by omega)
    (fun B x args X hs => by cases hs; rfl) (fun B x args X Y _ hs hk => hs)
    (fun pre X => MostI w (.func (.func 64) #[] #[.pointer (some ⟨g, 0, none⟩)]) (mostTo f.q p pre) X)
    (fun c pre X => False)
    ?hI ?hIx ?h0 (fun x args a' X => a' = { tmps := #[.pointer (some ⟨b, 0, none⟩), .func (.func 64) #[] #[.pointer (some ⟨g, 0, none⟩)], undef, .pointer (some ⟨w.heap.size, 0, none⟩), .int .i64 0, .pointer (some ⟨w.heap.size + 1, 0, none⟩), args.getD 0 undef, args.getD 1 undef, .pointer (some ⟨b, 0, none⟩), .func (.func 59) #[.pointer (some ⟨b, 0, none⟩)] #[], args.getD 0 undef, args.getD 1 undef, undef, undef, undef, undef, undef, undef, undef], defers := [] }) ?hAx ?hassign ?hbody ?hdone ?hstop
  case hI =>
    intro q X Y hX h hk
    exact h.kp hk (fun k hs => by have := hs.1; omega)
  case hIx => exact fun _ _ _ _ _ h _ => h.elim
  case h0 =>
    intro X hX hb
    exact HI1.out.kp (kpB_of_below hb (S := fun _ => False)) (fun _ h => h.elim)
  case hAx => exact fun _ _ _ _ _ _ h _ => h
  case hassign =>
    intro l' x args X K hz hs hK
    cases hs
    have hK' := hK _ X (.inl rfl) rfl
    clear hK
    simp only [List.zip_toArray, List.zip_cons_cons, List.zip_nil_right, List.foldl_toArray, List.foldl_cons, List.foldl_nil, List.setIfInBounds_toArray, List.set_cons_succ, List.set_cons_zero]
    gi_wp2_with (fail)
    exact hK'
  case hbody =>
    rintro l' pre m args a' X hX hpre hI hsee rfl
    cases hsee
    have hxm := (mem_setsTo.1 (hpre.subset (List.mem_append_right _ (List.mem_singleton.2 rfl)))).1
    have H103 := HP.out m hxm X hI.bl
    have HN := Lib.hid (mostTo_snoc f.q p pre m)
    have hz0 := brings_nonneg HF.out.pos (bitsL f.q.length m)
    generalize hm : mostTo f.q p pre = n at hI HN
    generalize hv : bringsL f.q (bitsL f.q.length m) = v at HN hz0
    have e0 := cell_of_heap (o := 0) hI.s rfl
    have HI := Lib.hid hI
    clear hm hv hI
    cases hp : p m
    · rw [hp] at H103 HN
      have H103 := Lib.hid H103
      clear hp
      gi_wp2_with (refine ⟨trivial, ?_⟩; gi_at_call 64; refine (CallsIn.mono (CallsIn.inRound l' (callsIn_wide.2 H103.out)) ?_); rintro e W5 ⟨rfl, hb5⟩; have HB5 := Lib.hid hb5; clear hb5)
      refine ⟨kpB_of_below HB5.out, ?_⟩
      show MostI w (.func (.func 64) #[] #[.pointer (some ⟨g, 0, none⟩)]) (mostTo f.q p (pre ++ [m])) _
      rw [HN.out]
      exact HI.out.kp (S := fun _ => False) (kpB_of_below HB5.out) (fun _ h => h.elim)
    · rw [hp, if_pos rfl] at HN
      rw [hp] at H103
      have H103 := Lib.hid H103
      clear hp
      by_cases hlt : n < v
      · have hle : n ≤ v := by omega
        gi_wp2_with (refine ⟨trivial, ?_⟩; gi_at_call 64; refine (CallsIn.mono (CallsIn.inRound l' (callsIn_wide.2 H103.out)) ?_); rintro e W5 ⟨rfl, hb5⟩; have HB5 := Lib.hid hb5; have HI5 := Lib.hid (HI.out.kp (S := fun _ => False) (kpB_of_below hb5) (fun _ h => h.elim)); have e1 := cell_of_heap (o := 0) HI5.out.n rfl; have e2 := frozen_of_heap HI5.out.n; clear hb5)
        refine ⟨(kpB_of_below HB5.out).set _ _ (.inl rfl), ?_⟩
        show MostI w (.func (.func 64) #[] #[.pointer (some ⟨g, 0, none⟩)]) (mostTo f.q p (pre ++ [m])) _
        rw [HN.out, Int.max_eq_right hle]
        exact HI5.out.set _
      · have hle : v ≤ n := by omega
        gi_wp2_with (refine ⟨trivial, ?_⟩; gi_at_call 64; refine (CallsIn.mono (CallsIn.inRound l' (callsIn_wide.2 H103.out)) ?_); rintro e W5 ⟨rfl, hb5⟩; have HB5 := Lib.hid hb5; have HI5 := Lib.hid (HI.out.kp (S := fun _ => False) (kpB_of_below hb5) (fun _ h => h.elim)); have e1 := cell_of_heap (o := 0) HI5.out.n rfl; have e2 := frozen_of_heap HI5.out.n; clear hb5)
        refine ⟨(kpB_of_below HB5.out).set _ _ (.inl rfl), ?_⟩
        show MostI w (.func (.func 64) #[] #[.pointer (some ⟨g, 0, none⟩)]) (mostTo f.q p (pre ++ [m])) _
        rw [HN.out, Int.max_eq_left hle]
        exact HI5.out.set _
  case hdone =>
    rintro X hX hI hk
    have e1 := cell_of_heap (o := 0) hI.n rfl
    have HB := Lib.hid hI.bl
    have HK := Lib.hid hk
    clear hI hk
    gi_wp2_with (fail)
    refine ⟨by simp, .inl ⟨_, _, rfl, run_takeDeferred HK.out, ?_⟩⟩
    refine ⟨.int .i64 (mostTo f.q p (setsL f.q rd)), by simp [results, Tryz.results35, go_sem], rfl, ?_⟩
    exact HB.out.trans (KpB.belowOf (S := fun k => k = W1.heap.size) ((KpB.refl _ _ _).put _ _ (.inl rfl)) HB.out.size (fun k hk => by omega))
  case hstop => exact fun _ _ _ _ _ h => h.elim

end Go.Proofs.YtmbcpmnigggbaabGreat
namespace Go.Proofs.YtmbcpmnigggbaabGreat
open Go.RowKit

attribute [local go_sem] Oper.semAt_some
set_option maxRecDepth 100000 in
set_option maxHeartbeats 4000000 in
theorem most_104 (F : FL) (f : Fair) (hf : FOK f) (rd : List Int) (b : Nat) (g : Nat) (p : Nat → Bool) (w : World) (hO : OpenAt w b F f rd)
    (hP : ∀ m : Nat, m < 2 ^ f.q.length → ∀ X, Below w.heap.size w X → Calls Tryz.prog 66 #[.int .i64 (m : Int), .pointer (some ⟨g, 0, none⟩)] X fun e X' => e = .returned (.bool (p m)) ∧ Below X.heap.size X X') :
    Calls Tryz.prog 35 #[.pointer (some ⟨b, 0, none⟩), .func (.func 66) #[] #[.pointer (some ⟨g, 0, none⟩)]] w fun e w' => e = .returned (.int .i64 (mostTo f.q p (setsL f.q rd))) ∧ Below w.heap.size w w' := by
  have h1 := heap_keep (o' := .cells #[.int .i64 0] 3) (heap_new1 w (.cells #[.func (.func 66) #[] #[.pointer (some ⟨g, 0, none⟩)]] 82))
  have h2 := heap_new2 w (.cells #[.func (.func 66) #[] #[.pointer (some ⟨g, 0, none⟩)]] 82) (.cells #[.int .i64 0] 3)
  have hb2 := hb0to (al_below w (.cells #[.func (.func 66) #[] #[.pointer (some ⟨g, 0, none⟩)]] 82)) (al_below _ (.cells #[.int .i64 0] 3))
  obtain ⟨W2, hW2⟩ : ∃ W2, (w.alloc (.cells #[.func (.func 66) #[] #[.pointer (some ⟨g, 0, none⟩)]] 82)).alloc (.cells #[.int .i64 0] 3) = W2 := ⟨_, rfl⟩
  rw [hW2] at h1 h2 hb2
  have q1 := cell_of_heap (o := 0) h1 rfl
  have q2 := cell_of_heap (o := 0) h2 rfl
  have q3 := frozen_of_heap h2
  have qb1 := heap_lt h1
  have qb2 := heap_lt h2
  have H1 := Lib.hid h1
  have H2 := Lib.hid h2
  have HB2 := Lib.hid hb2
  have HO := Lib.hid hO
  have HF := Lib.hid hf
  have HP := Lib.hid hP
  clear h1 h2 hb2 hO hf hP
  refine (callsIn_wide (n := 10)).1 ?_
  refine callsIn_of_wp_marks Tryz.func35 rfl trivial ?_ rfl
  simp only [Tryz.ntmps35, List.size_toArray, List.length_cons, List.length_nil, Nat.reduceAdd, Nat.reduceSub, Array.replicate_succ, Array.replicate_zero, List.push_toArray, List.append_toArray, List.nil_append, List.cons_append]
  gi_wp2_with (fail)
  have hI1 : MostI w (.func (.func 66) #[] #[.pointer (some ⟨g, 0, none⟩)]) (-1) (W2.setCell ⟨w.heap.size + 1, 0, none⟩ (.int .i64 (-1))) := ⟨HB2.out.setCell (by show w.heap.size ≤ w.heap.size + 1; omega) _, (set_other_heap (heap_lt H1.out) (by omega)).trans H1.out, heap_set _ H2.out⟩
  have hz1 : (W2.setCell ⟨w.heap.size + 1, 0, none⟩ (.int .i64 (-1))).heap.size = W2.heap.size := by simp [World.setCell]
  obtain ⟨W1, hW1⟩ : ∃ W1, W2.setCell ⟨w.heap.size + 1, 0, none⟩ (.int .i64 (-1)) = W1 := ⟨_, rfl⟩
  rw [hW1] at hI1 hz1 ⊢
  have HI1 := Lib.hid hI1
  have hzw : w.heap.size + 2 ≤ W1.heap.size := by omega
  clear hW1 q1 q2 q3 hI1 hz1 hW2
  refine wpIn_rangeFunc_makes (S := fun k => k = w.heap.size + 1) (Sees := SeesN f.q) (fb := #[.pointer (some ⟨b, 0, none⟩)]) (lb := #[]) (xs := setsL f.q rd) (w0 := W1) rfl (by omega) rfl trivial (fun _ _ => rfl)
    (sales_makes 9 F f HF.out rd b w W1 HO.out HI1.out.bl (fun k => k = w.heap.size + 1) (fun k hk => by omega)) (Below.refl _ _) (fun k hk => by omega)
    (fun B x args X hs => by cases hs; rfl) (fun B x args X Y _ hs hk => hs)
    (fun pre X => MostI w (.func (.func 66) #[] #[.pointer (some ⟨g, 0, none⟩)]) (mostTo f.q p pre) X)
    (fun c pre X => False)
    ?hI ?hIx ?h0 (fun x args a' X => a' = { tmps := #[.pointer (some ⟨b, 0, none⟩), .func (.func 66) #[] #[.pointer (some ⟨g, 0, none⟩)], undef, .pointer (some ⟨w.heap.size, 0, none⟩), .int .i64 0, .pointer (some ⟨w.heap.size + 1, 0, none⟩), args.getD 0 undef, args.getD 1 undef, .pointer (some ⟨b, 0, none⟩), .func (.func 59) #[.pointer (some ⟨b, 0, none⟩)] #[], args.getD 0 undef, args.getD 1 undef, undef, undef, undef, undef, undef, undef, undef], defers := [] }) ?hAx ?hassign ?hbody ?hdone ?hstop
  case hI =>
    intro q X Y hX h hk
    exact h.kp hk (fun k hs => by have := hs.1; omega)
  case hIx => exact fun _ _ _ _ _ h _ => h.elim
  case h0 =>
    intro X hX hb
    exact HI1.out.kp (kpB_of_below hb (S := fun _ => False)) (fun _ h => h.elim)
  case hAx => exact fun _ _ _ _ _ _ h _ => h
  case hassign =>
    intro l' x args X K hz hs hK
    cases hs
    have hK' := hK _ X (.inl rfl) rfl
    clear hK
    simp only [List.zip_toArray, List.zip_cons_cons, List.zip_nil_right, List.foldl_toArray, List.foldl_cons, List.foldl_nil, List.setIfInBounds_toArray, List.set_cons_succ, List.set_cons_zero]
    gi_wp2_with (fail)
    exact hK'
  case hbody =>
    rintro l' pre m args a' X hX hpre hI hsee rfl
    cases hsee
    have hxm := (mem_setsTo.1 (hpre.subset (List.mem_append_right _ (List.mem_singleton.2 rfl)))).1
    have H103 := HP.out m hxm X hI.bl
    have HN := Lib.hid (mostTo_snoc f.q p pre m)
    have hz0 := brings_nonneg HF.out.pos (bitsL f.q.length m)
    generalize hm : mostTo f.q p pre = n at hI HN
    generalize hv : bringsL f.q (bitsL f.q.length m) = v at HN hz0
    have e0 := cell_of_heap (o := 0) hI.s rfl
    have HI := Lib.hid hI
    clear hm hv hI
    cases hp : p m
    · rw [hp] at H103 HN
      have H103 := Lib.hid H103
      clear hp
      gi_wp2_with (refine ⟨trivial, ?_⟩; gi_at_call 66; refine (CallsIn.mono (CallsIn.inRound l' (callsIn_wide.2 H103.out)) ?_); rintro e W5 ⟨rfl, hb5⟩; have HB5 := Lib.hid hb5; clear hb5)
      refine ⟨kpB_of_below HB5.out, ?_⟩
      show MostI w (.func (.func 66) #[] #[.pointer (some ⟨g, 0, none⟩)]) (mostTo f.q p (pre ++ [m])) _
      rw [HN.out]
      exact HI.out.kp (S := fun _ => False) (kpB_of_below HB5.out) (fun _ h => h.elim)
    · rw [hp, if_pos rfl] at HN
      rw [hp] at H103
      have H103 := Lib.hid H103
      clear hp
      by_cases hlt : n < v
      · have hle : n ≤ v := by omega
        gi_wp2_with (refine ⟨trivial, ?_⟩; gi_at_call 66; refine (CallsIn.mono (CallsIn.inRound l' (callsIn_wide.2 H103.out)) ?_); rintro e W5 ⟨rfl, hb5⟩; have HB5 := Lib.hid hb5; have HI5 := Lib.hid (HI.out.kp (S := fun _ => False) (kpB_of_below hb5) (fun _ h => h.elim)); have e1 := cell_of_heap (o := 0) HI5.out.n rfl; have e2 := frozen_of_heap HI5.out.n; clear hb5)
        refine ⟨(kpB_of_below HB5.out).set _ _ (.inl rfl), ?_⟩
        show MostI w (.func (.func 66) #[] #[.pointer (some ⟨g, 0, none⟩)]) (mostTo f.q p (pre ++ [m])) _
        rw [HN.out, Int.max_eq_right hle]
        exact HI5.out.set _
      · have hle : v ≤ n := by omega
        gi_wp2_with (refine ⟨trivial, ?_⟩; gi_at_call 66; refine (CallsIn.mono (CallsIn.inRound l' (callsIn_wide.2 H103.out)) ?_); rintro e W5 ⟨rfl, hb5⟩; have HB5 := Lib.hid hb5; have HI5 := Lib.hid (HI.out.kp (S := fun _ => False) (kpB_of_below hb5) (fun _ h => h.elim)); have e1 := cell_of_heap (o := 0) HI5.out.n rfl; have e2 := frozen_of_heap HI5.out.n; clear hb5)
        refine ⟨(kpB_of_below HB5.out).set _ _ (.inl rfl), ?_⟩
        show MostI w (.func (.func 66) #[] #[.pointer (some ⟨g, 0, none⟩)]) (mostTo f.q p (pre ++ [m])) _
        rw [HN.out, Int.max_eq_left hle]
        exact HI5.out.set _
  case hdone =>
    rintro X hX hI hk
    have e1 := cell_of_heap (o := 0) hI.n rfl
    have HB := Lib.hid hI.bl
    have HK := Lib.hid hk
    clear hI hk
    gi_wp2_with (fail)
    refine ⟨by simp, .inl ⟨_, _, rfl, run_takeDeferred HK.out, ?_⟩⟩
    refine ⟨.int .i64 (mostTo f.q p (setsL f.q rd)), by simp [results, Tryz.results35, go_sem], rfl, ?_⟩
    exact HB.out.trans (KpB.belowOf (S := fun k => k = W1.heap.size) ((KpB.refl _ _ _).put _ _ (.inl rfl)) HB.out.size (fun k hk => by omega))
  case hstop => exact fun _ _ _ _ _ h => h.elim

open Go.RowKit

attribute [local go_sem] Oper.semAt_some
set_option maxRecDepth 100000 in
set_option maxHeartbeats 4000000 in
theorem most_100 (F : FL) (f : Fair) (hf : FOK f) (rd : List Int) (b : Nat) (g : Nat) (p : Nat → Bool) (w : World) (hO : OpenAt w b F f rd)
    (hP : ∀ m : Nat, m < 2 ^ f.q.length → ∀ X, Below w.heap.size w X → Calls Tryz.prog 61 #[.int .i64 (m : Int), .pointer (some ⟨g, 0, none⟩)] X fun e X' => e = .returned (.bool (p m)) ∧ Below X.heap.size X X') :
    Calls Tryz.prog 35 #[.pointer (some ⟨b, 0, none⟩), .func (.func 61) #[] #[.pointer (some ⟨g, 0, none⟩)]] w fun e w' => e = .returned (.int .i64 (mostTo f.q p (setsL f.q rd))) ∧ Below w.heap.size w w' := by
  have h1 := heap_keep (o' := .cells #[.int .i64 0] 3) (heap_new1 w (.cells #[.func (.func 61) #[] #[.pointer (some ⟨g, 0, none⟩)]] 82))
  have h2 := heap_new2 w (.cells #[.func (.func 61) #[] #[.pointer (some ⟨g, 0, none⟩)]] 82) (.cells #[.int .i64 0] 3)
  have hb2 := hb0to (al_below w (.cells #[.func (.func 61) #[] #[.pointer (some ⟨g, 0, none⟩)]] 82)) (al_below _ (.cells #[.int .i64 0] 3))
  obtain ⟨W2, hW2⟩ : ∃ W2, (w.alloc (.cells #[.func (.func 61) #[] #[.pointer (some ⟨g, 0, none⟩)]] 82)).alloc (.cells #[.int .i64 0] 3) = W2 := ⟨_, rfl⟩
  rw [hW2] at h1 h2 hb2
  have q1 := cell_of_heap (o := 0) h1 rfl
  have q2 := cell_of_heap (o := 0) h2 rfl
  have q3 := frozen_of_heap h2
  have qb1 := heap_lt h1
  have qb2 := heap_lt h2
  have H1 := Lib.hid h1
  have H2 := Lib.hid h2
  have HB2 := Lib.hid hb2
  have HO := Lib.hid hO
  have HF := Lib.hid hf
  have HP := Lib.hid hP
  clear h1 h2 hb2 hO hf hP
  refine (callsIn_wide (n := 10)).1 ?_
  refine callsIn_of_wp_marks Tryz.func35 rfl trivial ?_ rfl
  simp only [Tryz.ntmps35, List.size_toArray, List.length_cons, List.length_nil, Nat.reduceAdd, Nat.reduceSub, Array.replicate_succ, Array.replicate_zero, List.push_toArray, List.append_toArray, List.nil_append, List.cons_append]
  gi_wp2_with (fail)
  have hI1 : MostI w (.func (.func 61) #[] #[.pointer (some ⟨g, 0, none⟩)]) (-1) (W2.setCell ⟨w.heap.size + 1, 0, none⟩ (.int .i64 (-1))) := ⟨HB2.out.setCell (by show w.heap.size ≤ w.heap.size + 1; omega) _, (set_other_heap (heap_lt H1.out) (by omega)).trans H1.out, heap_set _ H2.out⟩
  have hz1 : (W2.setCell ⟨w.heap.size + 1, 0, none⟩ (.int .i64 (-1))).heap.size = W2.heap.size := by simp [World.setCell]
  obtain ⟨W1, hW1⟩ : ∃ W1, W2.setCell ⟨w.heap.size + 1, 0, none⟩ (.int .i64 (-1)) = W1 := ⟨_, rfl⟩
  rw [hW1] at hI1 hz1 ⊢
  have HI1 := Lib.hid hI1
  have hzw : w.heap.size + 2 ≤ W1.heap.size := by omega
  clear hW1 q1 q2 q3 hI1 hz1 hW2
  refine wpIn_rangeFunc_makes (S := fun k => k = w.heap.size + 1) (Sees := SeesN f.q) (fb := #[.pointer (some ⟨b, 0, none⟩)]) (lb := #[]) (xs := setsL f.q rd) (w0 := W1) rfl (by omega) rfl trivial (fun _ _ => rfl)
    (sales_makes 9 F f HF.out rd b w W1 HO.out HI1.out.bl (fun k => k = w.heap.size + 1) (fun k hk => by omega)) (Below.refl _ _) (fun k hk => by omega)
    (fun B x args X hs => by cases hs; rfl) (fun B x args X Y _ hs hk => hs)
    (fun pre X => MostI w (.func (.func 61) #[] #[.pointer (some ⟨g, 0, none⟩)]) (mostTo f.q p pre) X)
    (fun c pre X => False)
    ?hI ?hIx ?h0 (fun x args a' X => a' = { tmps := #[.pointer (some ⟨b, 0, none⟩), .func (.func 61) #[] #[.pointer (some ⟨g, 0, none⟩)], undef, .pointer (some ⟨w.heap.size, 0, none⟩), .int .i64 0, .pointer (some ⟨w.heap.size + 1, 0, none⟩), args.getD 0 undef, args.getD 1 undef, .pointer (some ⟨b, 0, none⟩), .func (.func 59) #[.pointer (some ⟨b, 0, none⟩)] #[], args.getD 0 undef, args.getD 1 undef, undef, undef, undef, undef, undef, undef, undef], defers := [] }) ?hAx ?hassign ?hbody ?hdone ?hstop
  case hI =>
    intro q X Y hX h hk
    exact h.kp hk (fun k hs => by have := hs.1; omega)
  case hIx => exact fun _ _ _ _ _ h _ => h.elim
  case h0 =>
    intro X hX hb
    exact HI1.out.kp (kpB_of_below hb (S := fun _ => False)) (fun _ h => h.elim)
  case hAx => exact fun _ _ _ _ _ _ h _ => h
  case hassign =>
    intro l' x args X K hz hs hK
    cases hs
    have hK' := hK _ X (.inl rfl) rfl
    clear hK
    simp only [List.zip_toArray, List.zip_cons_cons, List.zip_nil_right, List.foldl_toArray, List.foldl_cons, List.foldl_nil, List.setIfInBounds_toArray, List.set_cons_succ, List.set_cons_zero]
    gi_wp2_with (fail)
    exact hK'
  case hbody =>
    rintro l' pre m args a' X hX hpre hI hsee rfl
    cases hsee
    have hxm := (mem_setsTo.1 (hpre.subset (List.mem_append_right _ (List.mem_singleton.2 rfl)))).1
    have H103 := HP.out m hxm X hI.bl
    have HN := Lib.hid (mostTo_snoc f.q p pre m)
    have hz0 := brings_nonneg HF.out.pos (bitsL f.q.length m)
    generalize hm : mostTo f.q p pre = n at hI HN
    generalize hv : bringsL f.q (bitsL f.q.length m) = v at HN hz0
    have e0 := cell_of_heap (o := 0) hI.s rfl
    have HI := Lib.hid hI
    clear hm hv hI
    cases hp : p m
    · rw [hp] at H103 HN
      have H103 := Lib.hid H103
      clear hp
      gi_wp2_with (refine ⟨trivial, ?_⟩; gi_at_call 61; refine (CallsIn.mono (CallsIn.inRound l' (callsIn_wide.2 H103.out)) ?_); rintro e W5 ⟨rfl, hb5⟩; have HB5 := Lib.hid hb5; clear hb5)
      refine ⟨kpB_of_below HB5.out, ?_⟩
      show MostI w (.func (.func 61) #[] #[.pointer (some ⟨g, 0, none⟩)]) (mostTo f.q p (pre ++ [m])) _
      rw [HN.out]
      exact HI.out.kp (S := fun _ => False) (kpB_of_below HB5.out) (fun _ h => h.elim)
    · rw [hp, if_pos rfl] at HN
      rw [hp] at H103
      have H103 := Lib.hid H103
      clear hp
      by_cases hlt : n < v
      · have hle : n ≤ v := by omega
        gi_wp2_with (refine ⟨trivial, ?_⟩; gi_at_call 61; refine (CallsIn.mono (CallsIn.inRound l' (callsIn_wide.2 H103.out)) ?_); rintro e W5 ⟨rfl, hb5⟩; have HB5 := Lib.hid hb5; have HI5 := Lib.hid (HI.out.kp (S := fun _ => False) (kpB_of_below hb5) (fun _ h => h.elim)); have e1 := cell_of_heap (o := 0) HI5.out.n rfl; have e2 := frozen_of_heap HI5.out.n; clear hb5)
        refine ⟨(kpB_of_below HB5.out).set _ _ (.inl rfl), ?_⟩
        show MostI w (.func (.func 61) #[] #[.pointer (some ⟨g, 0, none⟩)]) (mostTo f.q p (pre ++ [m])) _
        rw [HN.out, Int.max_eq_right hle]
        exact HI5.out.set _
      · have hle : v ≤ n := by omega
        gi_wp2_with (refine ⟨trivial, ?_⟩; gi_at_call 61; refine (CallsIn.mono (CallsIn.inRound l' (callsIn_wide.2 H103.out)) ?_); rintro e W5 ⟨rfl, hb5⟩; have HB5 := Lib.hid hb5; have HI5 := Lib.hid (HI.out.kp (S := fun _ => False) (kpB_of_below hb5) (fun _ h => h.elim)); have e1 := cell_of_heap (o := 0) HI5.out.n rfl; have e2 := frozen_of_heap HI5.out.n; clear hb5)
        refine ⟨(kpB_of_below HB5.out).set _ _ (.inl rfl), ?_⟩
        show MostI w (.func (.func 61) #[] #[.pointer (some ⟨g, 0, none⟩)]) (mostTo f.q p (pre ++ [m])) _
        rw [HN.out, Int.max_eq_left hle]
        exact HI5.out.set _
  case hdone =>
    rintro X hX hI hk
    have e1 := cell_of_heap (o := 0) hI.n rfl
    have HB := Lib.hid hI.bl
    have HK := Lib.hid hk
    clear hI hk
    gi_wp2_with (fail)
    refine ⟨by simp, .inl ⟨_, _, rfl, run_takeDeferred HK.out, ?_⟩⟩
    refine ⟨.int .i64 (mostTo f.q p (setsL f.q rd)), by simp [results, Tryz.results35, go_sem], rfl, ?_⟩
    exact HB.out.trans (KpB.belowOf (S := fun k => k = W1.heap.size) ((KpB.refl _ _ _).put _ _ (.inl rfl)) HB.out.size (fun k hk => by omega))
  case hstop => exact fun _ _ _ _ _ h => h.elim

end Go.Proofs.YtmbcpmnigggbaabGreat
namespace Go.Proofs.YtmbcpmnigggbaabGreat
open Go.RowKit

attribute [local go_sem] Oper.semAt_some
/-! winners 80. -/
theorem winTo_lt (q : List Bid) {N : Nat} (h0 : 0 < N) (S : List Nat) (h : ∀ m ∈ S, m < N) : (winTo q S).1 < N := by
  revert h
  refine snoc_indN (P := fun S => (∀ m ∈ S, m < N) → (winTo q S).1 < N) (fun _ => h0) (fun S x ih hm => ?_) S
  rw [winTo_snoc]
  unfold winStep
  split
  · exact hm x (by simp)
  · exact ih fun m hm' => hm m (by simp [hm'])
/-- A region that draws its order, in a round: from the world behind the draw on, S is held. -/
theorem wpIn_region_heldR {l n id : Nat} {P : Program} {L : List Oper} {Q : Exit → Act → World → Prop} {S : World → Prop} {a : Act} {w : World} (hQ : ¬ LetsOut Q) (hd : noDefer L = true) (hm : P.follows .mixedOrders = true) (hS : S w.drew)
    (h : S w.drew → wpAnyH P .any L.toArray Q S L.toArray.size (Array.replicate L.toArray.size false) a w.drew) : (Code.region id L.toArray true).wpIn (Fence.wide.inRound l) n P Q a w :=
  wpIn_region_any hm (wpAnyIn_round (fun i o ho => noDefer_at hd (by simpa using ho)) hQ _ _ _ _ (wpAny_of_held _ _ _ _ (h hS)))
structure WinI (w : World) (m : Nat) (n : Int) (X : World) : Prop where
  bl : Below w.heap.size w X
  b : X.heap[w.heap.size]? = some (.cells #[.int .i64 (m : Int)] 87 (0, 0))
  n : X.heap[w.heap.size + 1]? = some (.cells #[.int .i64 n] 3 (0, 0))
theorem WinI.kp {w : World} {m : Nat} {n : Int} {X Y : World} (h : WinI w m n X) {S : Nat → Prop} (hk : KpB S X.heap.size X Y) (hS : ∀ k, S k → w.heap.size + 2 ≤ k) : WinI w m n Y :=
  ⟨h.bl.trans (hk.belowOf h.bl.size (fun k hs => by have := hS k hs; omega)), (hk.block _ (heap_lt h.b) (fun hs => by have := hS _ hs; omega)).trans h.b, (hk.block _ (heap_lt h.n) (fun hs => by have := hS _ hs; omega)).trans h.n⟩
theorem WinI.set {w : World} {m : Nat} {n : Int} {X : World} (h : WinI w m n X) (m' : Nat) (n' : Int) : WinI w m' n' ((X.setCell ⟨w.heap.size, 0, none⟩ (.int .i64 (m' : Int))).setCell ⟨w.heap.size + 1, 0, none⟩ (.int .i64 n')) := by
  have z : (X.setCell ⟨w.heap.size, 0, none⟩ (.int .i64 (m' : Int))).heap.size = X.heap.size := by simp [World.setCell]
  exact ⟨(h.bl.setCell (Nat.le_refl _) _).setCell (by show w.heap.size ≤ w.heap.size + 1; omega) _,
    (set_other_heap (by rw [z]; exact heap_lt h.b) (by omega)).trans (heap_set _ h.b),
    heap_set _ ((set_other_heap (heap_lt h.n) (by omega)).trans h.n)⟩
set_option maxRecDepth 100000 in
set_option maxHeartbeats 4000000 in
theorem winners_any (F : FL) (f : Fair) (hf : FOK f) (rd : List Int) (b : Nat) (w : World) (hO : OpenAt w b F f rd) :
    Calls Tryz.prog 46 #[.pointer (some ⟨b, 0, none⟩)] w fun e w' => e = .returned (.int .i64 (winS f.q rd : Int)) ∧ Below w.heap.size w w' := by
  have h1 := heap_keep (o' := .cells #[.int .i64 0] 3) (heap_new1 w (.cells #[.int .i64 0] 87))
  have h2 := heap_new2 w (.cells #[.int .i64 0] 87) (.cells #[.int .i64 0] 3)
  have hb2 := hb0to (al_below w (.cells #[.int .i64 0] 87)) (al_below _ (.cells #[.int .i64 0] 3))
  obtain ⟨W2, hW2⟩ : ∃ W2, (w.alloc (.cells #[.int .i64 0] 87)).alloc (.cells #[.int .i64 0] 3) = W2 := ⟨_, rfl⟩
  rw [hW2] at h1 h2 hb2
  have q1 := cell_of_heap (o := 0) h1 rfl
  have q2 := cell_of_heap (o := 0) h2 rfl
  have q3 := frozen_of_heap h2
  have qb1 := heap_lt h1
  have qb2 := heap_lt h2
  have H1 := Lib.hid h1
  have H2 := Lib.hid h2
  have HB2 := Lib.hid hb2
  have HO := Lib.hid hO
  have HF := Lib.hid hf
  have hql := hf.ql
  clear h1 h2 hb2 hO hf
  refine (callsIn_wide (n := 10)).1 ?_
  refine callsIn_of_wp_marks Tryz.func46 rfl trivial ?_ rfl
  simp only [Tryz.ntmps46, List.size_toArray, List.length_cons, List.length_nil, Nat.reduceAdd, Nat.reduceSub, Array.replicate_succ, Array.replicate_zero, List.push_toArray, List.append_toArray, List.nil_append, List.cons_append]
  gi_wp2_with (fail)
  have hI1 : WinI w 0 (-1) (W2.setCell ⟨w.heap.size + 1, 0, none⟩ (.int .i64 (-1))) := ⟨HB2.out.setCell (by show w.heap.size ≤ w.heap.size + 1; omega) _, (set_other_heap (heap_lt H1.out) (by omega)).trans H1.out, heap_set _ H2.out⟩
  have hz1 : (W2.setCell ⟨w.heap.size + 1, 0, none⟩ (.int .i64 (-1))).heap.size = W2.heap.size := by simp [World.setCell]
  obtain ⟨W1, hW1⟩ : ∃ W1, W2.setCell ⟨w.heap.size + 1, 0, none⟩ (.int .i64 (-1)) = W1 := ⟨_, rfl⟩
  rw [hW1] at hI1 hz1 ⊢
  have HI1 := Lib.hid hI1
  have hzw : w.heap.size + 2 ≤ W1.heap.size := by omega
  clear hW1 q1 q2 q3 hI1 hz1 hW2
  refine wpIn_rangeFunc_makes (S := fun k => k = w.heap.size ∨ k = w.heap.size + 1) (Sees := SeesN f.q) (fb := #[.pointer (some ⟨b, 0, none⟩)]) (lb := #[]) (xs := setsL f.q rd) (w0 := W1) rfl (by omega) rfl trivial (fun _ _ => rfl)
    (sales_makes 9 F f HF.out rd b w W1 HO.out HI1.out.bl (fun k => k = w.heap.size ∨ k = w.heap.size + 1) (fun k hk => by omega)) (Below.refl _ _) (fun k hk => by omega)
    (fun B x args X hs => by cases hs; rfl) (fun B x args X Y _ hs hk => hs)
    (fun pre X => WinI w (winTo f.q pre).1 (winTo f.q pre).2 X)
    (fun c pre X => False)
    ?hI ?hIx ?h0 (fun x args a' X => a' = { tmps := #[.pointer (some ⟨b, 0, none⟩), undef, .int .i64 0, .pointer (some ⟨w.heap.size, 0, none⟩), .pointer (some ⟨w.heap.size + 1, 0, none⟩), args.getD 0 undef, args.getD 1 undef, undef, undef, .pointer (some ⟨b, 0, none⟩), .func (.func 59) #[.pointer (some ⟨b, 0, none⟩)] #[], args.getD 0 undef, args.getD 1 undef, undef, undef, undef, undef, undef, undef, undef, undef, undef, undef, undef, undef, undef, undef, undef, undef, undef, undef, undef, undef, undef, undef, undef, undef, undef, undef, undef, undef], defers := [] }) ?hAx ?hassign ?hbody ?hdone ?hstop
  case hI =>
    intro q X Y hX h hk
    exact h.kp hk (fun k hs => by have := hs.1; omega)
  case hIx => exact fun _ _ _ _ _ h _ => h.elim
  case h0 =>
    intro X hX hb
    exact HI1.out.kp (kpB_of_below hb (S := fun _ => False)) (fun _ h => h.elim)
  case hAx => exact fun _ _ _ _ _ _ h _ => h
  case hassign =>
    intro l' x args X K hz hs hK
    cases hs
    have hK' := hK _ X (.inl rfl) rfl
    clear hK
    simp only [List.zip_toArray, List.zip_cons_cons, List.zip_nil_right, List.foldl_toArray, List.foldl_cons, List.foldl_nil, List.setIfInBounds_toArray, List.set_cons_succ, List.set_cons_zero]
    gi_wp2_with (fail)
    exact hK'
  case hbody =>
    rintro l' pre m args a' X hX hpre hI hsee rfl
    cases hsee
    have hxm := (mem_setsTo.1 (hpre.subset (List.mem_append_right _ (List.mem_singleton.2 rfl)))).1
    have hbm := winTo_lt f.q (Nat.pow_pos (n := f.q.length) (show 0 < 2 by omega)) pre (fun k hk => (mem_setsTo.1 (hpre.subset (List.mem_append_left _ hk))).1)
    have HN := Lib.hid (winTo_snoc f.q pre m)
    have hz0 := brings_nonneg HF.out.pos (bitsL f.q.length m)
    generalize hst : winTo f.q pre = st at hI HN hbm
    obtain ⟨bm, n⟩ := st
    simp only at hI hbm
    unfold winStep at HN
    simp only at HN
    have hm8 : m < 256 := Nat.lt_of_lt_of_le hxm (pow_eight hql)
    have hb8 : bm < 256 := Nat.lt_of_lt_of_le hbm (pow_eight hql)
    have H69a := Lib.hid (fun W => by have := list_any m hm8 W; rw [bits_eight hql hxm] at this; exact this)
    have H69b := Lib.hid (fun W => by have := list_any bm hb8 W; rw [bits_eight hql hbm] at this; exact this)
    have hl1 := Nat.le_trans (bits_len f.q.length m) hql
    have hl2 := Nat.le_trans (bits_len f.q.length bm) hql
    generalize hv : bringsL f.q (bitsL f.q.length m) = v at HN hz0
    generalize hL1 : bitsL f.q.length m = L1 at HN H69a hl1
    generalize hL2 : bitsL f.q.length bm = L2 at HN H69b hl2
    have e0 := cell_of_heap (o := 0) hI.b rfl
    have e1 := cell_of_heap (o := 0) hI.n rfl
    have HI := Lib.hid hI
    clear hv hI hL1 hL2 hst hxm hbm hm8 hb8
    gi_wp2_with (fail)
    refine wpIn_region_heldR (S := fun w' => w'.cell? ⟨w.heap.size, 0, none⟩ = some (.int .i64 (bm : Int))) (by rintro ⟨_, _, hh⟩; exact hh) (by rfl) (by kernel_rfl) e0 (fun hHeld => ?_)
    refine wpAnyH_take (i := 0) (oi := _) (v := .int .i64 (m : Int)) rfl (by kernel_rfl) (by kernel_rfl) (by kernel_rfl) (fun _ _ _ h => h) (Or.inl ⟨by rfl, fun w hSw => ?_⟩) hHeld ?_
    · go_simp
    refine wpAnyH_take (i := 2) (oi := _) (v := .int .i64 (bm : Int)) rfl (by kernel_rfl) (by kernel_rfl) (by kernel_rfl) (fun _ _ _ h => h) (Or.inl ⟨by rfl, fun w hSw => ?_⟩) hHeld ?_
    · (try dsimp only at hSw); go_simp
    try simp only [Act.put, List.setIfInBounds_toArray, List.set_cons_zero, List.set_cons_succ]
    refine wpAnyH_ready (rs := [1]) (by kernel_rfl) (by simp) ?_
    refine AllReadyH.cons (o := _) rfl (fun K hK => ?_) AllReadyH.nil
    go_simp
    refine (H69a.out _).mono ?_
    rintro e w1 ⟨⟨v1, rfl, hv1⟩, hb1⟩
    have B1 := Lib.hid (hb0to (drew_below X) hb1)
    obtain ⟨A1, c1, rfl, _, _, hI1⟩ := hv1.lay
    rw [intsN_len]
    have HI1 := Lib.hid hI1.at_
    have s1 := below_cell B1.out e0
    clear hb1 hv1 hI1
    refine hK.out _ _ s1 (fun hHeld => ?_)
    clear hK K
    refine wpAnyH_ready (rs := [3]) (by kernel_rfl) (by simp) ?_
    refine AllReadyH.cons (o := _) rfl (fun K hK => ?_) AllReadyH.nil
    go_simp
    refine (H69b.out _).mono ?_
    rintro e w2 ⟨⟨v2, rfl, hv2⟩, hb2⟩
    have B2 := Lib.hid (hb0to B1.out hb2)
    have HI2a := Lib.hid (ints_later HI1.out hb2)
    obtain ⟨A2, c2, rfl, _, _, hI2⟩ := hv2.lay
    rw [intsN_len]
    have HI2 := Lib.hid hI2.at_
    have s2 := below_cell B2.out e0
    clear hb2 hv2 hI2
    refine hK.out _ _ s2 (fun hHeld => ?_)
    clear hK K
    refine wpAnyH_ready (rs := [4]) (by kernel_rfl) (by simp) ?_
    refine AllReadyH.cons (o := _) rfl (fun K hK => ?_) AllReadyH.nil
    go_simp
    refine hK.out _ _ s2 (fun hHeld => ?_)
    clear hK K
    refine wpAnyH_ready (rs := [5]) (by kernel_rfl) (by simp) ?_
    refine AllReadyH.cons (o := _) rfl (fun K hK => ?_) AllReadyH.nil
    go_simp
    refine hK.out _ _ s2 (fun hHeld => ?_)
    clear hK K
    refine wpAnyH_done (by kernel_rfl) ?_ _
    have hHI := HI.out.kp (S := fun _ => False) (kpB_of_below B2.out) (fun _ h => h.elim)
    have t0 := cell_of_heap (o := 0) hHI.b rfl
    have t1 := cell_of_heap (o := 0) hHI.n rfl
    have f0 := frozen_of_heap hHI.b
    have f1 := frozen_of_heap hHI.n
    have HHI := Lib.hid hHI
    have HLA := Lib.hid (or_ahead L1 L2)
    have H107 := Lib.hid (fun W hW1 hW2 => by have := compare_any (intsN L1) (intsN L2) A1 A2 c1 c2 (by rw [intsN_len]; omega) (by rw [intsN_len]; omega) W hW1 hW2; rw [intsN_len, intsN_len] at this; exact this)
    clear hHI e0 e1 s1 s2 hHeld
    have hq1 := heap_lt HHI.out.b
    have hq2 := heap_lt HHI.out.n
    have hne1 : ¬ w.heap.size = w2.heap.size := by omega
    have hne2 : ¬ w.heap.size + 1 = w2.heap.size := by omega
    by_cases hlt : n < v
    · rw [if_pos (.inl hlt)] at HN
      have hd1 : decide (n < v) = true := decide_eq_true hlt
      clear hlt
      gi_wp2_with (refine ⟨trivial, ?_⟩)
      all_goals first | (rename_i g1 g2; exact absurd g1 (by unfold undef; simp)) | skip
      refine ⟨((kpB_of_below B2.out).set _ _ (Or.inl (Or.inl rfl))).set _ _ (Or.inl (Or.inr rfl)), ?_⟩
      show WinI w (winTo f.q (pre ++ [m])).1 (winTo f.q (pre ++ [m])).2 _
      rw [HN.out]
      exact HHI.out.set m v
    · have hd1 : decide (n < v) = false := decide_eq_false hlt
      by_cases he : v = n
      · have hd2 : (v == n) = true := by simp [he]
        have hb3 := hb0to B2.out (al_below w2 (.cells #[.int .i64 ((L1.length : Int) - (L2.length : Int)), .int .i64 (cmpI (intsN L1) (intsN L2))] 3))
        by_cases ha : aheadP L1 L2
        · rw [if_pos (.inr ⟨he, ha⟩)] at HN
          have hd3 : decide (orI ((L1.length : Int) - (L2.length : Int)) (cmpI (intsN L1) (intsN L2)) < 0) = true := decide_eq_true (HLA.out.2 ha)
          have HHI3 := Lib.hid (HHI.out.kp (S := fun _ => False) (kpB_of_below (al_below w2 (.cells #[.int .i64 ((L1.length : Int) - (L2.length : Int)), .int .i64 (cmpI (intsN L1) (intsN L2))] 3))) (fun _ h => h.elim))
          clear HLA ha hlt he
          generalize cmpI (intsN L1) (intsN L2) = z at H107 hd3 hb3 HHI3
          have HB3 := Lib.hid hb3
          clear hb3
          gi_wp2_with (first
          | (refine ⟨trivial, ?_⟩; gi_at_call 69; refine (CallsIn.mono (CallsIn.inRound l' (callsIn_wide.2 (H107.out _ HI2a.out HI2.out))) ?_); rintro e W5 ⟨rfl, rfl⟩)
          | (refine ⟨trivial, ?_⟩; gi_at_call 68; refine (CallsIn.mono (CallsIn.inRound l' (callsIn_wide.2 (or_any ((L1.length : Int) - (L2.length : Int)) z w2.heap.size 2 _ (by simp [go_sem]) (by simp [go_sem])))) ?_); rintro e W6 ⟨rfl, rfl⟩))
          refine ⟨(((kpB_of_below B2.out).set _ _ (Or.inl (Or.inl rfl))).set _ _ (Or.inl (Or.inr rfl))).alloc _ (by simpa [World.setCell] using B2.out.size), ?_⟩
          show WinI w (winTo f.q (pre ++ [m])).1 (winTo f.q (pre ++ [m])).2 _
          rw [HN.out]
          exact (HHI.out.set m v).kp (S := fun _ => False) (kpB_of_below (al_below _ _)) (fun _ h => h.elim)
        · rw [if_neg (fun h => h.elim hlt (fun h => ha h.2))] at HN
          have hd3 : decide (orI ((L1.length : Int) - (L2.length : Int)) (cmpI (intsN L1) (intsN L2)) < 0) = false := decide_eq_false (fun h => ha (HLA.out.1 h))
          have HHI3 := Lib.hid (HHI.out.kp (S := fun _ => False) (kpB_of_below (al_below w2 (.cells #[.int .i64 ((L1.length : Int) - (L2.length : Int)), .int .i64 (cmpI (intsN L1) (intsN L2))] 3))) (fun _ h => h.elim))
          clear HLA ha hlt he
          generalize cmpI (intsN L1) (intsN L2) = z at H107 hd3 hb3 HHI3
          have HB3 := Lib.hid hb3
          clear hb3
          gi_wp2_with (first
          | (refine ⟨trivial, ?_⟩; gi_at_call 69; refine (CallsIn.mono (CallsIn.inRound l' (callsIn_wide.2 (H107.out _ HI2a.out HI2.out))) ?_); rintro e W5 ⟨rfl, rfl⟩)
          | (refine ⟨trivial, ?_⟩; gi_at_call 68; refine (CallsIn.mono (CallsIn.inRound l' (callsIn_wide.2 (or_any ((L1.length : Int) - (L2.length : Int)) z w2.heap.size 2 _ (by simp [go_sem]) (by simp [go_sem])))) ?_); rintro e W6 ⟨rfl, rfl⟩))
          refine ⟨kpB_of_below HB3.out, ?_⟩
          show WinI w (winTo f.q (pre ++ [m])).1 (winTo f.q (pre ++ [m])).2 _
          rw [HN.out]
          exact HHI3.out
      · have hd2 : (v == n) = false := by simp [he]
        rw [if_neg (fun h => h.elim hlt (fun h => he h.1))] at HN
        clear hlt he
        gi_wp2_with (refine ⟨trivial, ?_⟩)
        all_goals first | (rename_i g1 g2; exact absurd g1 (by unfold undef; simp)) | skip
        refine ⟨kpB_of_below B2.out, ?_⟩
        show WinI w (winTo f.q (pre ++ [m])).1 (winTo f.q (pre ++ [m])).2 _
        rw [HN.out]
        exact HHI.out
  case hdone =>
    rintro X hX hI hk
    have e1 := cell_of_heap (o := 0) hI.b rfl
    have HB := Lib.hid hI.bl
    have HK := Lib.hid hk
    clear hI hk
    gi_wp2_with (fail)
    refine ⟨by simp, .inl ⟨_, _, rfl, run_takeDeferred HK.out, ?_⟩⟩
    refine ⟨.int .i64 (winS f.q rd : Int), by simp [results, Tryz.results46, go_sem, winS], rfl, ?_⟩
    exact HB.out.trans (KpB.belowOf (S := fun k => k = W1.heap.size) ((KpB.refl _ _ _).put _ _ (.inl rfl)) HB.out.size (fun k hk => by omega))
  case hstop => exact fun _ _ _ _ _ h => h.elim

end Go.Proofs.YtmbcpmnigggbaabGreat
