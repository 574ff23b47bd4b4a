import Derived.Test.YtmconopnplgcfaaFC
import Derived.Test.YtmconopnplgcfaaFE
import Derived.Test.YtmconopnplgcfaaFG
namespace Go.Proofs.Ytmconopnplgcfaa
open Go.RowKit

/-! with 74, without 75, isBid 73, isDay 70, pays 68. -/
set_option maxRecDepth 100000 in
set_option maxHeartbeats 4000000 in
theorem with_any (F : FL) (f : Fair) (hf : FOK f) (rd : List Int) (b i : Nat) (hi : i < f.q.length) (w : World) (hO : OpenAt w b F f rd) :
    Calls Try.prog 74 #[.pointer (some ⟨b, 0, none⟩), .int .i64 (i : Int)] w fun e w' => e = .returned (.int .i64 (withV f.q rd i)) ∧ Below w.heap.size w w' := by
  have hql := hf.ql
  have hbw := al_below w (.cells #[.int .i64 (i : Int)] 3)
  have hc := cell_of_heap (o := 0) (heap_new1 w (.cells #[.int .i64 (i : Int)] 3)) rfl
  obtain ⟨W0, hW0⟩ : ∃ W0, w.alloc (.cells #[.int .i64 (i : Int)] 3) = W0 := ⟨_, rfl⟩
  rw [hW0] at hbw hc
  have H77 := Lib.hid (most_103 F f hf rd b w.heap.size (withM i) W0 (hO.below hbw) (fun m hm X hX => (with1_any m i (Nat.lt_of_lt_of_le hm (pow_eight hql)) (by omega) w.heap.size X (below_cell hX hc)).mono fun e X' h => ⟨h.1, h.2 ▸ Below.refl _ _⟩))
  have HBW := Lib.hid hbw
  have HW0 := Lib.hid hW0
  clear hO hbw hc hW0 hf
  go_enter Try.func74, Try.ntmps74
  go_upto_region 1 with (fail)
  have e := HW0.out
  rw [e]
  clear e
  go_wp2_with (go_at_call 77; refine H77.out.mono ?_; rintro e w' ⟨rfl, hb1⟩; have HB1 := Lib.hid hb1; clear hb1)
  go_ret
  exact ⟨rfl, hb0to HBW.out HB1.out⟩
set_option maxRecDepth 100000 in
set_option maxHeartbeats 4000000 in
theorem out_any (F : FL) (f : Fair) (hf : FOK f) (rd : List Int) (b i : Nat) (hi : i < f.q.length) (w : World) (hO : OpenAt w b F f rd) :
    Calls Try.prog 75 #[.pointer (some ⟨b, 0, none⟩), .int .i64 (i : Int)] w fun e w' => e = .returned (.int .i64 (outV f.q rd i)) ∧ Below w.heap.size w w' := by
  have hql := hf.ql
  have hbw := al_below w (.cells #[.int .i64 (i : Int)] 3)
  have hc := cell_of_heap (o := 0) (heap_new1 w (.cells #[.int .i64 (i : Int)] 3)) rfl
  obtain ⟨W0, hW0⟩ : ∃ W0, w.alloc (.cells #[.int .i64 (i : Int)] 3) = W0 := ⟨_, rfl⟩
  rw [hW0] at hbw hc
  have H77 := Lib.hid (most_104 F f hf rd b w.heap.size (outM i) W0 (hO.below hbw) (fun m hm X hX => (out1_any m i (Nat.lt_of_lt_of_le hm (pow_eight hql)) (by omega) w.heap.size X (below_cell hX hc)).mono fun e X' h => ⟨h.1, h.2 ▸ Below.refl _ _⟩))
  have HBW := Lib.hid hbw
  have HW0 := Lib.hid hW0
  clear hO hbw hc hW0 hf
  go_enter Try.func75, Try.ntmps75
  go_upto_region 1 with (fail)
  have e := HW0.out
  rw [e]
  clear e
  go_wp2_with (go_at_call 77; refine H77.out.mono ?_; rintro e w' ⟨rfl, hb1⟩; have HB1 := Lib.hid hb1; clear hb1)
  go_ret
  exact ⟨rfl, hb0to HBW.out HB1.out⟩
set_option maxRecDepth 100000 in
set_option maxHeartbeats 4000000 in
theorem isBid_any (F : FL) (f : Fair) (n : Int) (hq : f.q.length ≤ 1000) (w : World) : Calls Try.prog 73 #[F.enc f, .int .i64 n] w fun e w' => e = .returned (.bool (inR n 0 (f.q.length - 1))) ∧ Below w.heap.size w w' := by
  have hbw := al_below w (.cells #[.slice F.L.Ak f.h.ks.length F.L.ck, .int .i64 f.h.fl, .slice F.L.Ap f.h.ps.length F.L.cp, .slice F.L.Ab f.h.bs.length F.L.cb, .slice F.Ap f.pk.length F.cp, .int .i64 f.day, .int .i64 f.nb, .slice F.Aq f.q.length F.cq] 29)
  obtain ⟨c0, c1, c2, c3, c4, c5, c6, c7⟩ := (FBox.new w F f).cells
  obtain ⟨W0, hW0⟩ : ∃ W0, w.alloc (.cells #[.slice F.L.Ak f.h.ks.length F.L.ck, .int .i64 f.h.fl, .slice F.L.Ap f.h.ps.length F.L.cp, .slice F.L.Ab f.h.bs.length F.L.cb, .slice F.Ap f.pk.length F.cp, .int .i64 f.day, .int .i64 f.nb, .slice F.Aq f.q.length F.cq] 29) = W0 := ⟨_, rfl⟩
  rw [hW0] at hbw c0 c1 c2 c3 c4 c5 c6 c7
  have HBW := Lib.hid hbw
  have HW0 := Lib.hid hW0
  clear hbw hW0 c0 c1 c2 c3 c4 c5 c6
  obtain ⟨L, Ap, cp, Aq, cq⟩ := F
  go_enter Try.func73, Try.ntmps73
  go_upto_region 1 with (fail)
  have e := HW0.out
  rw [e]
  clear e
  go_wp2_with (go_at_call 67; refine (swithin_any _ _ _ _).mono ?_; rintro e w' ⟨rfl, rfl⟩)
  go_ret
  exact ⟨rfl, HBW.out⟩
theorem isDay_any (n : Int) (w : World) : Calls Try.prog 70 #[.int .i64 n] w fun e w' => e = .returned (.bool (inR n 0 20)) ∧ w = w' := by
  go_enter Try.func70, Try.ntmps70
  go_wp2_with (go_at_call 67; refine (swithin_any _ _ _ _).mono ?_; rintro e w' ⟨rfl, rfl⟩)
  go_ret
  exact ⟨rfl, rfl⟩
theorem payAt_le {q : List Bid} (hq : ∀ b ∈ q, 0 ≤ b.pay ∧ b.pay ≤ 99) (i : Nat) : 0 ≤ payAt q i ∧ payAt q i ≤ 99 := by
  unfold payAt
  cases h : q[i]? with
  | none => simp
  | some b => exact hq b (List.mem_of_getElem? h)
theorem brings_le {q : List Bid} (hq : ∀ b ∈ q, 0 ≤ b.pay ∧ b.pay ≤ 99) : ∀ l : List Nat, bringsL q l ≤ 99 * (l.length : Int)
  | [] => by simp [bringsL]
  | i :: l => by
    have := brings_le hq l
    have := (payAt_le hq i).2
    rw [brings_cons, List.length_cons]
    omega
theorem mostTo_bd {q : List Bid} (hn : q.length ≤ 8) (hq : ∀ b ∈ q, 0 ≤ b.pay ∧ b.pay ≤ 99) (p : Nat → Bool) (S : List Nat) : -1 ≤ mostTo q p S ∧ mostTo q p S ≤ 792 := by
  have h0 := fun b hb => (hq b hb).1
  rcases (mostTo_ge q p h0 S).2 with ⟨e, _⟩ | ⟨m, _, _, e⟩
  · omega
  · have h1 := brings_le hq (bitsL q.length m)
    have h2 := bits_len q.length m
    have h3 := brings_nonneg h0 (bitsL q.length m)
    omega
theorem others_snoc (q : List Bid) (v : Int) (l : List Nat) (i : Nat) : othersL q v (l ++ [i]) = if ownP q v i = true then othersL q v l else othersL q v l + payAt q i := by
  unfold othersL
  rw [List.filter_append, brings_app]
  by_cases h : ownP q v i = true
  · rw [if_pos h, List.filter_cons_of_neg (by simp [h])]; simp [bringsL]
  · rw [if_neg h, List.filter_cons_of_pos (by simp [h])]; simp [bringsL]
theorem others_nil (q : List Bid) (v : Int) : othersL q v [] = 0 := rfl
def ownN (q : List Bid) (v : Int) (l : List Nat) : Nat := (l.filter (ownP q v)).length
theorem ownN_snoc (q : List Bid) (v : Int) (l : List Nat) (i : Nat) : ownN q v (l ++ [i]) = if ownP q v i = true then ownN q v l + 1 else ownN q v l := by
  unfold ownN
  rw [List.filter_append, List.length_append]
  by_cases h : ownP q v i = true
  · rw [if_pos h, List.filter_cons_of_pos h]; rfl
  · rw [if_neg h, List.filter_cons_of_neg h]; rfl
theorem ownN_le (q : List Bid) (v : Int) (l : List Nat) : ownN q v l ≤ l.length := List.length_filter_le _ _
theorem ownN_zero {q : List Bid} {v : Int} {l : List Nat} : ownN q v l = 0 ↔ ¬ l.any (ownP q v) = true := by
  unfold ownN
  rw [List.length_eq_zero_iff, List.filter_eq_nil_iff, List.any_eq_true]
  exact ⟨fun h ⟨i, hi, ho⟩ => h i hi ho, fun h i hi ho => h ⟨i, hi, ho⟩⟩
set_option maxRecDepth 100000 in
set_option maxHeartbeats 4000000 in
theorem pays_any (F : FL) (f : Fair) (hf : FOK f) (rd : List Int) (b : Nat) (v : Int) (w : World) (hO : OpenAt w b F f rd) :
    Calls Try.prog 68 #[.pointer (some ⟨b, 0, none⟩), .int .i64 v] w fun e w' => e = .returned (.int .i64 (payV f.q rd v)) ∧ Below w.heap.size w w' := by
  have h1 := heap_keep (o' := .cells #[.func (.func 99) #[] #[.pointer (some ⟨w.heap.size, 0, none⟩), .pointer (some ⟨w.heap.size + 1, 0, none⟩)]] 47) (heap_keep (o' := .cells #[.int .i64 v] 3) (heap_new1 w (.cells #[.pointer (some ⟨b, 0, none⟩)] 64)))
  have h2 := heap_keep (o' := .cells #[.func (.func 99) #[] #[.pointer (some ⟨w.heap.size, 0, none⟩), .pointer (some ⟨w.heap.size + 1, 0, none⟩)]] 47) (heap_new2 w (.cells #[.pointer (some ⟨b, 0, none⟩)] 64) (.cells #[.int .i64 v] 3))
  have h3 := heap_new3 w (.cells #[.pointer (some ⟨b, 0, none⟩)] 64) (.cells #[.int .i64 v] 3) (.cells #[.func (.func 99) #[] #[.pointer (some ⟨w.heap.size, 0, none⟩), .pointer (some ⟨w.heap.size + 1, 0, none⟩)]] 47)
  have hb4 := hb0to (hb0to (al_below w (.cells #[.pointer (some ⟨b, 0, none⟩)] 64)) (al_below _ (.cells #[.int .i64 v] 3))) (al_below _ (.cells #[.func (.func 99) #[] #[.pointer (some ⟨w.heap.size, 0, none⟩), .pointer (some ⟨w.heap.size + 1, 0, none⟩)]] 47))
  obtain ⟨W4, hW4⟩ : ∃ W4, ((w.alloc (.cells #[.pointer (some ⟨b, 0, none⟩)] 64)).alloc (.cells #[.int .i64 v] 3)).alloc (.cells #[.func (.func 99) #[] #[.pointer (some ⟨w.heap.size, 0, none⟩), .pointer (some ⟨w.heap.size + 1, 0, none⟩)]] 47) = W4 := ⟨_, rfl⟩
  rw [hW4] at h1 h2 h3 hb4
  have k1 := cell_of_heap (o := 0) h1 rfl
  have k2 := cell_of_heap (o := 0) h2 rfl
  have k3 := cell_of_heap (o := 0) h3 rfl
  have HO := Lib.hid (hO.below hb4)
  have HK1 := Lib.hid k1
  have HK2 := Lib.hid k2
  have HK3 := Lib.hid k3
  have HW4 := Lib.hid hW4
  have HB4 := Lib.hid hb4
  have HF := Lib.hid hf
  have hql := hf.ql
  have hwn := (win_of_sets (q := f.q) (rd := rd) hf.ql hf.pos).1
  have hw8 := Nat.lt_of_lt_of_le hwn (pow_eight hf.ql)
  have H80 := Lib.hid (winners_any F f hf rd b W4 HO.out)
  have H69 := Lib.hid (fun W => by have := list_any (winS f.q rd) hw8 W; rw [bits_eight hf.ql hwn] at this; exact this)
  have HIN := Lib.hid (show ∀ i ∈ bitsL f.q.length (winS f.q rd), i < f.q.length from fun i hi => bits_lt hi)
  have hll := Nat.le_trans (bits_len f.q.length (winS f.q rd)) hf.ql
  have HPV := Lib.hid (show payV f.q rd v = if (bitsL f.q.length (winS f.q rd)).any (ownP f.q v) = true then noneV f.q rd v - othersL f.q v (bitsL f.q.length (winS f.q rd)) else 0 from rfl)
  obtain ⟨l, hl⟩ : ∃ l, bitsL f.q.length (winS f.q rd) = l := ⟨_, rfl⟩
  rw [hl] at H69 HIN hll HPV
  clear h1 h2 h3 hW4 hb4 k1 k2 k3 hO hf hwn hw8 hl
  go_enter Try.func68, Try.ntmps68
  go_upto_region 2 with (fail)
  have e := HW4.out
  rw [e]
  clear e
  have k1 := HK1.out
  go_wp2_with (first
    | (go_at_call 80; refine H80.out.mono ?_; rintro e w1 ⟨rfl, hb1⟩; have HB1 := Lib.hid hb1; clear hb1 k1)
    | (go_at_call 69; refine (H69.out _).mono ?_; rintro e w2 ⟨⟨v2, rfl, hv2⟩, hb2⟩; have HB2 := Lib.hid (hb0to HB1.out hb2); obtain ⟨A2, c2, rfl, _, _, hI2⟩ := hv2.lay; rw [intsN_len]; have HI2 := Lib.hid hI2.at_; clear hb2 hv2 hI2))
  go_loopw [15, 6, 7] (fun i c o wr => ∃ (k : Nat) (x : Int), k ≤ l.length ∧ i = .int .i64 k ∧ c = .int .i64 (ownN f.q v (l.take k) : Int) ∧ o = .int .i64 x ∧ 0 ≤ x ∧ x ≤ 99 * (k : Int) ∧ Hid (x = othersL f.q v (l.take k)) ∧ Hid (Below w2.heap.size w2 wr)) (fun i _ _ _ => l.length - (intOf i).toNat)
  case atStart => exact ⟨0, 0, Nat.zero_le _, rfl, rfl, rfl, by omega, by omega, Lib.hid rfl, Lib.hid (Below.refl _ _)⟩
  case round =>
    obtain ⟨k, x, hk, rfl, rfl, rfl, hx0, hx1, hx, hb⟩ := hrel
    have hbw := hb0to HB2.out hb.out
    by_cases hlt : k < l.length
    · obtain ⟨i, hi⟩ : ∃ i, l[k]? = some i := ⟨_, List.getElem?_eq_getElem hlt⟩
      have hiq := HIN.out i (List.mem_of_getElem? hi)
      obtain ⟨y, hy⟩ : ∃ y, f.q[i]? = some y := ⟨_, List.getElem?_eq_getElem hiq⟩
      obtain ⟨b1, o1, rfl, b1lt, d1⟩ := HI2.out.at_ (intsN_at hi)
      have d2 := below_cell hb.out d1
      have HO2 := Lib.hid (HO.out.below hbw)
      have H99 := Lib.hid (own1_any F f rd b w.heap.size (w.heap.size + 1) i v y hy hql wr HO2.out (below_cell hbw HK1.out) (below_cell hbw HK2.out))
      have k3 := below_cell hbw HK3.out
      have HT := Lib.hid (show l.take (k + 1) = l.take k ++ [i] from (take_snoc_next hi).symm)
      have hon := ownN_le f.q v (l.take k)
      have htl : (l.take k).length ≤ 8 := by rw [List.length_take]; omega
      have hpy := HF.out.pay y (List.mem_of_getElem? hy)
      have HPY := Lib.hid (payAt_some hy)
      have HY := Lib.hid hy
      have HON := Lib.hid (ownN_snoc f.q v (l.take k) i)
      have HOT := Lib.hid (others_snoc f.q v (l.take k) i)
      have HB := Lib.hid hbw
      generalize ownN f.q v (l.take k) = c at hon HON ⊢
      clear hi hy d1 hbw
      cases ho : ownP f.q v i
      · rw [ho] at H99 HON HOT
        simp only [Bool.false_eq_true, if_false] at HON HOT
        clear ho
        obtain ⟨Al, cl, r, hOB, hLA, -⟩ := HO2.out.ex
        obtain ⟨lb, ol, rfl, lblt, mb, hmb, _, _, d3⟩ := hLA.at_ HY.out
        obtain ⟨_, _, _, _, _, _, _, _, g8, _⟩ := hOB.cells
        have G8 := Lib.hid g8
        have D3 := Lib.hid d3
        have K1R := Lib.hid (below_cell HB.out HK1.out)
        clear hOB hLA hmb g8 d3
        go_wp2_with (go_at_call 99; refine H99.out.mono ?_; rintro e w3 ⟨rfl, hb3⟩; have HB3 := Lib.hid hb3; have p1 := below_cell hb3 K1R.out; have p8 := below_cell hb3 G8.out; have p3 := below_cell hb3 D3.out; clear hb3)
        go_roundw
        case rel => exact ⟨k + 1, x + y.pay, by omega, by go_num, by rw [HT.out, HON.out], rfl, by omega, by omega, Lib.hid (by rw [HT.out, HOT.out, HPY.out, hx.out]), Lib.hid (hb0to hb.out HB3.out)⟩
        case measure => simp [intOf]; omega
      · rw [ho, if_pos rfl] at HON HOT
        rw [ho] at H99
        clear ho
        go_wp2_with (go_at_call 99; refine H99.out.mono ?_; rintro e w3 ⟨rfl, hb3⟩; have HB3 := Lib.hid hb3; clear hb3)
        go_roundw
        case rel => exact ⟨k + 1, x, by omega, by go_num, by rw [HT.out, HON.out]; go_num, rfl, hx0, by omega, Lib.hid (by rw [HT.out, HOT.out]; exact hx.out), Lib.hid (hb0to hb.out HB3.out)⟩
        case measure => simp [intOf]; omega
    · obtain rfl : k = l.length := by omega
      have hx2 := hx.out
      rw [List.take_length] at hx2 ⊢
      have HX2 := Lib.hid hx2
      have hnv := mostTo_bd hql HF.out.pay (noneM f.q v) (setsL f.q rd)
      have HNV := Lib.hid (show noneV f.q rd v = mostTo f.q (noneM f.q v) (setsL f.q rd) from rfl)
      have hoz := ownN_zero (q := f.q) (v := v) (l := l)
      have hon := ownN_le f.q v l
      have HB := Lib.hid hbw
      have hb3 := below_cell hbw HK1.out
      have H77 := Lib.hid (most_100 F f HF.out rd b (w.heap.size + 1 + 1) (noneM f.q v) wr (HO.out.below hbw) (fun m hm X hX => none2_any F f HF.out rd b w.heap.size (w.heap.size + 1) (w.heap.size + 1 + 1) v m hm X (HO.out.below (hb0to hbw hX)) (below_cell (hb0to hbw hX) HK1.out) (below_cell (hb0to hbw hX) HK2.out) (below_cell (hb0to hbw hX) HK3.out)))
      generalize ownN f.q v l = c at hoz hon ⊢
      generalize mostTo f.q (noneM f.q v) (setsL f.q rd) = z at hnv HNV H77
      clear hx hx2 hbw
      by_cases hz : c = 0
      · have hd : ((c : Int) == 0) = true := by simp [hz]
        have HQ := Lib.hid (show payV f.q rd v = 0 by rw [HPV.out, if_neg (hoz.1 hz)])
        clear hz hoz
        go_wp2_with (fail)
        go_ret
        exact ⟨by rw [HQ.out]; rfl, hb0to HB4.out HB.out⟩
      · have hd : ((c : Int) == 0) = false := by simp [hz]
        have HQ := Lib.hid (show payV f.q rd v = z - x by rw [HPV.out, if_pos (Classical.not_not.1 (fun h => hz (hoz.2 h))), HNV.out, HX2.out])
        clear hz hoz
        go_wp2_with (go_at_call 77; refine H77.out.mono ?_; rintro e w4 ⟨rfl, hb5⟩; have HB5 := Lib.hid hb5; clear hb5)
        go_ret
        exact ⟨by rw [HQ.out]; rfl, hb0to HB4.out (hb0to HB.out HB5.out)⟩

end Go.Proofs.Ytmconopnplgcfaa
