import Derived.Test.YtmbcpmnigggbaabGreatFG
namespace Go.Proofs.YtmbcpmnigggbaabGreat
open Go.RowKit

/-! with 74, without 75, isBid 73, isDay 70, pays 68. -/
set_option maxRecDepth 100000 in
set_option maxHeartbeats 4000000 in
theorem with_any (F : FL) (f : Fair) (hf : FOK f) (rd : List Int) (b i : Nat) (hi : i < f.q.length) (w : World) (hO : OpenAt w b F f rd) :
    Calls Tryz.prog 39 #[.pointer (some ⟨b, 0, none⟩), .int .i64 (i : Int)] w fun e w' => e = .returned (.int .i64 (withV f.q rd i)) ∧ Below w.heap.size w w' := by
  have hql := hf.ql
  have hbw := al_below w (.cells #[.int .i64 (i : Int)] 3)
  have hc := cell_of_heap (o := 0) (heap_new1 w (.cells #[.int .i64 (i : Int)] 3)) rfl
  obtain ⟨W0, hW0⟩ : ∃ W0, w.alloc (.cells #[.int .i64 (i : Int)] 3) = W0 := ⟨_, rfl⟩
  rw [hW0] at hbw hc
  have H77 := Lib.hid (most_103 F f hf rd b w.heap.size (withM i) W0 (hO.below hbw) (fun m hm X hX => (with1_any m i (Nat.lt_of_lt_of_le hm (pow_eight hql)) (by omega) w.heap.size X (below_cell hX hc)).mono fun e X' h => ⟨h.1, h.2 ▸ Below.refl _ _⟩))
  have HBW := Lib.hid hbw
  have HW0 := Lib.hid hW0
  clear hO hbw hc hW0 hf
  go_enter Tryz.func39, Tryz.ntmps39
  go_upto_region 1 with (fail)
  have e := HW0.out
  rw [e]
  clear e
  go_wp2_with (go_at_call 35; refine H77.out.mono ?_; rintro e w' ⟨rfl, hb1⟩; have HB1 := Lib.hid hb1; clear hb1)
  go_ret
  exact ⟨rfl, hb0to HBW.out HB1.out⟩
set_option maxRecDepth 100000 in
set_option maxHeartbeats 4000000 in
theorem out_any (F : FL) (f : Fair) (hf : FOK f) (rd : List Int) (b i : Nat) (hi : i < f.q.length) (w : World) (hO : OpenAt w b F f rd) :
    Calls Tryz.prog 40 #[.pointer (some ⟨b, 0, none⟩), .int .i64 (i : Int)] w fun e w' => e = .returned (.int .i64 (outV f.q rd i)) ∧ Below w.heap.size w w' := by
  have hql := hf.ql
  have hbw := al_below w (.cells #[.int .i64 (i : Int)] 3)
  have hc := cell_of_heap (o := 0) (heap_new1 w (.cells #[.int .i64 (i : Int)] 3)) rfl
  obtain ⟨W0, hW0⟩ : ∃ W0, w.alloc (.cells #[.int .i64 (i : Int)] 3) = W0 := ⟨_, rfl⟩
  rw [hW0] at hbw hc
  have H77 := Lib.hid (most_104 F f hf rd b w.heap.size (outM i) W0 (hO.below hbw) (fun m hm X hX => (out1_any m i (Nat.lt_of_lt_of_le hm (pow_eight hql)) (by omega) w.heap.size X (below_cell hX hc)).mono fun e X' h => ⟨h.1, h.2 ▸ Below.refl _ _⟩))
  have HBW := Lib.hid hbw
  have HW0 := Lib.hid hW0
  clear hO hbw hc hW0 hf
  go_enter Tryz.func40, Tryz.ntmps40
  go_upto_region 1 with (fail)
  have e := HW0.out
  rw [e]
  clear e
  go_wp2_with (go_at_call 35; refine H77.out.mono ?_; rintro e w' ⟨rfl, hb1⟩; have HB1 := Lib.hid hb1; clear hb1)
  go_ret
  exact ⟨rfl, hb0to HBW.out HB1.out⟩
set_option maxRecDepth 100000 in
set_option maxHeartbeats 4000000 in
theorem isBid_any (F : FL) (f : Fair) (n : Int) (hq : f.q.length ≤ 1000) (w : World) : Calls Tryz.prog 38 #[F.enc f, .int .i64 n] w fun e w' => e = .returned (.bool (inR n 0 (f.q.length - 1))) ∧ Below w.heap.size w w' := by
  have hbw := al_below w (.cells #[.slice F.L.Ak f.h.ks.length F.L.ck, .int .i64 f.h.fl, .slice F.L.Ap f.h.ps.length F.L.cp, .slice F.L.Ab f.h.bs.length F.L.cb, .slice F.Ap f.pk.length F.cp, .int .i64 f.day, .int .i64 f.nb, .slice F.Aq f.q.length F.cq] 41)
  obtain ⟨c0, c1, c2, c3, c4, c5, c6, c7⟩ := (FBox.new w F f).cells
  obtain ⟨W0, hW0⟩ : ∃ W0, w.alloc (.cells #[.slice F.L.Ak f.h.ks.length F.L.ck, .int .i64 f.h.fl, .slice F.L.Ap f.h.ps.length F.L.cp, .slice F.L.Ab f.h.bs.length F.L.cb, .slice F.Ap f.pk.length F.cp, .int .i64 f.day, .int .i64 f.nb, .slice F.Aq f.q.length F.cq] 41) = W0 := ⟨_, rfl⟩
  rw [hW0] at hbw c0 c1 c2 c3 c4 c5 c6 c7
  have HBW := Lib.hid hbw
  have HW0 := Lib.hid hW0
  clear hbw hW0 c0 c1 c2 c3 c4 c5 c6
  obtain ⟨L, Ap, cp, Aq, cq⟩ := F
  go_enter Tryz.func38, Tryz.ntmps38
  go_upto_region 1 with (fail)
  have e := HW0.out
  rw [e]
  clear e
  go_wp2_with (go_at_call 63; refine (swithin_any _ _ _ _).mono ?_; rintro e w' ⟨rfl, rfl⟩)
  go_ret
  exact ⟨rfl, HBW.out⟩
theorem payAt_le {q : List Bid} (hq : ∀ b ∈ q, 0 ≤ b.pay ∧ b.pay ≤ 99) (i : Nat) : 0 ≤ payAt q i ∧ payAt q i ≤ 99 := by
  unfold payAt
  cases h : q[i]? with
  | none => simp
  | some b => exact hq b (List.mem_of_getElem? h)
theorem brings_le {q : List Bid} (hq : ∀ b ∈ q, 0 ≤ b.pay ∧ b.pay ≤ 99) : ∀ l : List Nat, bringsL q l ≤ 99 * (l.length : Int)
  | [] => by simp [bringsL]
  | i :: l => by
    have := brings_le hq l
    have := (payAt_le hq i).2
    rw [brings_cons, List.length_cons]
    omega
theorem mostTo_bd {q : List Bid} (hn : q.length ≤ 8) (hq : ∀ b ∈ q, 0 ≤ b.pay ∧ b.pay ≤ 99) (p : Nat → Bool) (S : List Nat) : -1 ≤ mostTo q p S ∧ mostTo q p S ≤ 792 := by
  have h0 := fun b hb => (hq b hb).1
  rcases (mostTo_ge q p h0 S).2 with ⟨e, _⟩ | ⟨m, _, _, e⟩
  · omega
  · have h1 := brings_le hq (bitsL q.length m)
    have h2 := bits_len q.length m
    have h3 := brings_nonneg h0 (bitsL q.length m)
    omega
theorem others_snoc (q : List Bid) (v : Int) (l : List Nat) (i : Nat) : othersL q v (l ++ [i]) = if ownP q v i = true then othersL q v l else othersL q v l + payAt q i := by
  unfold othersL
  rw [List.filter_append, brings_app]
  by_cases h : ownP q v i = true
  · rw [if_pos h, List.filter_cons_of_neg (by simp [h])]; simp [bringsL]
  · rw [if_neg h, List.filter_cons_of_pos (by simp [h])]; simp [bringsL]
def ownN (q : List Bid) (v : Int) (l : List Nat) : Nat := (l.filter (ownP q v)).length
theorem ownN_snoc (q : List Bid) (v : Int) (l : List Nat) (i : Nat) : ownN q v (l ++ [i]) = if ownP q v i = true then ownN q v l + 1 else ownN q v l := by
  unfold ownN
  rw [List.filter_append, List.length_append]
  by_cases h : ownP q v i = true
  · rw [if_pos h, List.filter_cons_of_pos h]; rfl
  · rw [if_neg h, List.filter_cons_of_neg h]; rfl
theorem ownN_le (q : List Bid) (v : Int) (l : List Nat) : ownN q v l ≤ l.length := List.length_filter_le _ _
theorem ownN_zero {q : List Bid} {v : Int} {l : List Nat} : ownN q v l = 0 ↔ ¬ l.any (ownP q v) = true := by
  unfold ownN
  rw [List.length_eq_zero_iff, List.filter_eq_nil_iff, List.any_eq_true]
  exact ⟨fun h ⟨i, hi, ho⟩ => h i hi ho, fun h i hi ho => h ⟨i, hi, ho⟩⟩
set_option maxRecDepth 100000 in
set_option maxHeartbeats 4000000 in
theorem pays_any (F : FL) (f : Fair) (hf : FOK f) (rd : List Int) (b : Nat) (v : Int) (w : World) (hO : OpenAt w b F f rd) :
    Calls Tryz.prog 37 #[.pointer (some ⟨b, 0, none⟩), .int .i64 v] w fun e w' => e = .returned (.int .i64 (payV f.q rd v)) ∧ Below w.heap.size w w' := by
  have h1 := heap_keep (o' := .cells #[.func (.func 60) #[] #[.pointer (some ⟨w.heap.size, 0, none⟩), .pointer (some ⟨w.heap.size + 1, 0, none⟩)]] 93) (heap_keep (o' := .cells #[.int .i64 v] 3) (heap_new1 w (.cells #[.pointer (some ⟨b, 0, none⟩)] 78)))
  have h2 := heap_keep (o' := .cells #[.func (.func 60) #[] #[.pointer (some ⟨w.heap.size, 0, none⟩), .pointer (some ⟨w.heap.size + 1, 0, none⟩)]] 93) (heap_new2 w (.cells #[.pointer (some ⟨b, 0, none⟩)] 78) (.cells #[.int .i64 v] 3))
  have h3 := heap_new3 w (.cells #[.pointer (some ⟨b, 0, none⟩)] 78) (.cells #[.int .i64 v] 3) (.cells #[.func (.func 60) #[] #[.pointer (some ⟨w.heap.size, 0, none⟩), .pointer (some ⟨w.heap.size + 1, 0, none⟩)]] 93)
  have hb4 := hb0to (hb0to (al_below w (.cells #[.pointer (some ⟨b, 0, none⟩)] 78)) (al_below _ (.cells #[.int .i64 v] 3))) (al_below _ (.cells #[.func (.func 60) #[] #[.pointer (some ⟨w.heap.size, 0, none⟩), .pointer (some ⟨w.heap.size + 1, 0, none⟩)]] 93))
  obtain ⟨W4, hW4⟩ : ∃ W4, ((w.alloc (.cells #[.pointer (some ⟨b, 0, none⟩)] 78)).alloc (.cells #[.int .i64 v] 3)).alloc (.cells #[.func (.func 60) #[] #[.pointer (some ⟨w.heap.size, 0, none⟩), .pointer (some ⟨w.heap.size + 1, 0, none⟩)]] 93) = W4 := ⟨_, rfl⟩
  rw [hW4] at h1 h2 h3 hb4
  have k1 := cell_of_heap (o := 0) h1 rfl
  have k2 := cell_of_heap (o := 0) h2 rfl
  have k3 := cell_of_heap (o := 0) h3 rfl
  have HO := Lib.hid (hO.below hb4)
  have HK1 := Lib.hid k1
  have HK2 := Lib.hid k2
  have HK3 := Lib.hid k3
  have HW4 := Lib.hid hW4
  have HB4 := Lib.hid hb4
  have HF := Lib.hid hf
  have hql := hf.ql
  have hwn := (win_of_sets (q := f.q) (rd := rd) hf.ql hf.pos).1
  have hw8 := Nat.lt_of_lt_of_le hwn (pow_eight hf.ql)
  have H80 := Lib.hid (winners_any F f hf rd b W4 HO.out)
  have H69 := Lib.hid (fun W => by have := list_any (winS f.q rd) hw8 W; rw [bits_eight hf.ql hwn] at this; exact this)
  have HIN := Lib.hid (show ∀ i ∈ bitsL f.q.length (winS f.q rd), i < f.q.length from fun i hi => bits_lt hi)
  have hll := Nat.le_trans (bits_len f.q.length (winS f.q rd)) hf.ql
  have HPV := Lib.hid (show payV f.q rd v = if (bitsL f.q.length (winS f.q rd)).any (ownP f.q v) = true then noneV f.q rd v - othersL f.q v (bitsL f.q.length (winS f.q rd)) else 0 from rfl)
  obtain ⟨l, hl⟩ : ∃ l, bitsL f.q.length (winS f.q rd) = l := ⟨_, rfl⟩
  rw [hl] at H69 HIN hll HPV
  clear h1 h2 h3 hW4 hb4 k1 k2 k3 hO hf hwn hw8 hl
  go_enter Tryz.func37, Tryz.ntmps37
  go_upto_region 2 with (fail)
  have e := HW4.out
  rw [e]
  clear e
  have k1 := HK1.out
  go_wp2_with (first
    | (go_at_call 46; refine H80.out.mono ?_; rintro e w1 ⟨rfl, hb1⟩; have HB1 := Lib.hid hb1; clear hb1 k1)
    | (go_at_call 47; refine (H69.out _).mono ?_; rintro e w2 ⟨⟨v2, rfl, hv2⟩, hb2⟩; have HB2 := Lib.hid (hb0to HB1.out hb2); obtain ⟨A2, c2, rfl, _, _, hI2⟩ := hv2.lay; rw [intsN_len]; have HI2 := Lib.hid hI2.at_; clear hb2 hv2 hI2))
  go_loopw [15, 6, 7] (fun i c o wr => ∃ (k : Nat) (x : Int), k ≤ l.length ∧ i = .int .i64 k ∧ c = .int .i64 (ownN f.q v (l.take k) : Int) ∧ o = .int .i64 x ∧ 0 ≤ x ∧ x ≤ 99 * (k : Int) ∧ Hid (x = othersL f.q v (l.take k)) ∧ Hid (Below w2.heap.size w2 wr)) (fun i _ _ _ => l.length - (intOf i).toNat)
  case atStart => exact ⟨0, 0, Nat.zero_le _, rfl, rfl, rfl, by omega, by omega, Lib.hid rfl, Lib.hid (Below.refl _ _)⟩
  case round =>
    obtain ⟨k, x, hk, rfl, rfl, rfl, hx0, hx1, hx, hb⟩ := hrel
    have hbw := hb0to HB2.out hb.out
    by_cases hlt : k < l.length
    · obtain ⟨i, hi⟩ : ∃ i, l[k]? = some i := ⟨_, List.getElem?_eq_getElem hlt⟩
      have hiq := HIN.out i (List.mem_of_getElem? hi)
      obtain ⟨y, hy⟩ : ∃ y, f.q[i]? = some y := ⟨_, List.getElem?_eq_getElem hiq⟩
      obtain ⟨b1, o1, rfl, b1lt, d1⟩ := HI2.out.at_ (intsN_at hi)
      have d2 := below_cell hb.out d1
      have HO2 := Lib.hid (HO.out.below hbw)
      have H99 := Lib.hid (own1_any F f rd b w.heap.size (w.heap.size + 1) i v y hy hql wr HO2.out (below_cell hbw HK1.out) (below_cell hbw HK2.out))
      have k3 := below_cell hbw HK3.out
      have HT := Lib.hid (show l.take (k + 1) = l.take k ++ [i] from (take_snoc_next hi).symm)
      have hon := ownN_le f.q v (l.take k)
      have htl : (l.take k).length ≤ 8 := by rw [List.length_take]; omega
      have hpy := HF.out.pay y (List.mem_of_getElem? hy)
      have HPY := Lib.hid (payAt_some hy)
      have HY := Lib.hid hy
      have HON := Lib.hid (ownN_snoc f.q v (l.take k) i)
      have HOT := Lib.hid (others_snoc f.q v (l.take k) i)
      have HB := Lib.hid hbw
      generalize ownN f.q v (l.take k) = c at hon HON ⊢
      clear hi hy d1 hbw
      cases ho : ownP f.q v i
      · rw [ho] at H99 HON HOT
        simp only [Bool.false_eq_true, if_false] at HON HOT
        clear ho
        obtain ⟨Al, cl, r, hOB, hLA, -⟩ := HO2.out.ex
        obtain ⟨lb, ol, rfl, lblt, mb, hmb, _, _, d3⟩ := hLA.at_ HY.out
        obtain ⟨_, _, _, _, _, _, _, _, g8, _⟩ := hOB.cells
        have G8 := Lib.hid g8
        have D3 := Lib.hid d3
        have K1R := Lib.hid (below_cell HB.out HK1.out)
        clear hOB hLA hmb g8 d3
        go_wp2_with (go_at_call 60; refine H99.out.mono ?_; rintro e w3 ⟨rfl, hb3⟩; have HB3 := Lib.hid hb3; have p1 := below_cell hb3 K1R.out; have p8 := below_cell hb3 G8.out; have p3 := below_cell hb3 D3.out; clear hb3)
        go_roundw
        case rel => exact ⟨k + 1, x + y.pay, by omega, by go_num, by rw [HT.out, HON.out], rfl, by omega, by omega, Lib.hid (by rw [HT.out, HOT.out, HPY.out, hx.out]), Lib.hid (hb0to hb.out HB3.out)⟩
        case measure => simp [intOf]; omega
      · rw [ho, if_pos rfl] at HON HOT
        rw [ho] at H99
        clear ho
        go_wp2_with (go_at_call 60; refine H99.out.mono ?_; rintro e w3 ⟨rfl, hb3⟩; have HB3 := Lib.hid hb3; clear hb3)
        go_roundw
        case rel => exact ⟨k + 1, x, by omega, by go_num, by rw [HT.out, HON.out]; go_num, rfl, hx0, by omega, Lib.hid (by rw [HT.out, HOT.out]; exact hx.out), Lib.hid (hb0to hb.out HB3.out)⟩
        case measure => simp [intOf]; omega
    · obtain rfl : k = l.length := by omega
      have hx2 := hx.out
      rw [List.take_length] at hx2 ⊢
      have HX2 := Lib.hid hx2
      have hnv := mostTo_bd hql HF.out.pay (noneM f.q v) (setsL f.q rd)
      have HNV := Lib.hid (show noneV f.q rd v = mostTo f.q (noneM f.q v) (setsL f.q rd) from rfl)
      have hoz := ownN_zero (q := f.q) (v := v) (l := l)
      have hon := ownN_le f.q v l
      have HB := Lib.hid hbw
      have hb3 := below_cell hbw HK1.out
      have H77 := Lib.hid (most_100 F f HF.out rd b (w.heap.size + 1 + 1) (noneM f.q v) wr (HO.out.below hbw) (fun m hm X hX => none2_any F f HF.out rd b w.heap.size (w.heap.size + 1) (w.heap.size + 1 + 1) v m hm X (HO.out.below (hb0to hbw hX)) (below_cell (hb0to hbw hX) HK1.out) (below_cell (hb0to hbw hX) HK2.out) (below_cell (hb0to hbw hX) HK3.out)))
      generalize ownN f.q v l = c at hoz hon ⊢
      generalize mostTo f.q (noneM f.q v) (setsL f.q rd) = z at hnv HNV H77
      clear hx hx2 hbw
      by_cases hz : c = 0
      · have hd : ((c : Int) == 0) = true := by simp [hz]
        have HQ := Lib.hid (show payV f.q rd v = 0 by rw [HPV.out, if_neg (hoz.1 hz)])
        clear hz hoz
        go_wp2_with (fail)
        go_ret
        exact ⟨by rw [HQ.out]; rfl, hb0to HB4.out HB.out⟩
      · have hd : ((c : Int) == 0) = false := by simp [hz]
        have HQ := Lib.hid (show payV f.q rd v = z - x by rw [HPV.out, if_pos (Classical.not_not.1 (fun h => hz (hoz.2 h))), HNV.out, HX2.out])
        clear hz hoz
        go_wp2_with (go_at_call 35; refine H77.out.mono ?_; rintro e w4 ⟨rfl, hb5⟩; have HB5 := Lib.hid hb5; clear hb5)
        go_ret
        exact ⟨by rw [HQ.out]; rfl, hb0to HB4.out (hb0to HB.out HB5.out)⟩

end Go.Proofs.YtmbcpmnigggbaabGreat
namespace Go.Proofs.YtmbcpmnigggbaabGreat
open Go.RowKit

/-! The program's functions: Most 40, Winners 42, Ready 29, Paid 32, Won 36, Pays 23, Need 37. -/
abbrev rdF (f : Fair) : List Int := readyL f.h f.pk f.day
def numRF (f : Fair) (is : Bool) (v : Int) : Int × Int := if askF f is = 0 then (v, 0) else (0, askF f is)
theorem numRF_ok {f : Fair} {is : Bool} {v : Int} (h : askF f is = 0) : numRF f is v = (v, 0) := if_pos h
theorem numRF_no {f : Fair} {is : Bool} {v er : Int} (h : er = askF f is) (h0 : er ≠ 0) : numRF f is v = (0, er) := by
  unfold numRF; rw [if_neg (by rw [← h]; exact h0), h]
def NumEnd (r : Int × Int) (e : Ending) : Prop := e = .returned (.tuple #[.int .i64 r.1, .int .i64 r.2])
theorem NumEnd.mk {r : Int × Int} {x y : Int} (h : r = (x, y)) : NumEnd r (.returned (.tuple #[.int .i64 x, .int .i64 y])) := by unfold NumEnd; rw [h]
def listRF (f : Fair) (is : Bool) (l : List Int) : List Int × Int := if askF f is = 0 then (l, 0) else ([], askF f is)
theorem listRF_ok {f : Fair} {is : Bool} {v : List Int} (h : askF f is = 0) : listRF f is v = (v, 0) := if_pos h
theorem listRF_no {f : Fair} {is : Bool} {v : List Int} {er : Int} (h : er = askF f is) (h0 : er ≠ 0) : listRF f is v = ([], er) := by
  unfold listRF; rw [if_neg (by rw [← h]; exact h0), h]
def ListEnd (r : List Int × Int) (B : Nat) (w' : World) (e : Ending) : Prop := ∃ v, e = .returned (.tuple #[v, .int .i64 r.2]) ∧ Ints w' B v r.1
theorem ListEnd.mk {r : List Int × Int} {B : Nat} {w' : World} {v : Value} {l : List Int} {y : Int} (h : r = (l, y)) (hv : Ints w' B v l) : ListEnd r B w' (.returned (.tuple #[v, .int .i64 y])) := by subst h; exact ⟨v, rfl, hv⟩
def mostRet (f : Fair) : Int × Int := numRF f true (mostV f.q (rdF f))
def winRet (f : Fair) : List Int × Int := listRF f true (intsN (winL f.q (rdF f)))
def paidRet (f : Fair) : Int × Int := numRF f true (paidTo f.q (rdF f) f.nb.toNat)
def isBid (f : Fair) (x : Int) : Bool := inR x 0 ((f.q.length : Int) - 1)
def isBuyer (f : Fair) (x : Int) : Bool := inR x 0 (f.nb - 1)
def wonRet (f : Fair) (x : Int) : Int × Int := numRF f (isBid f x) (wonN (withV f.q (rdF f) x.toNat) (outV f.q (rdF f) x.toNat))
set_option maxRecDepth 100000 in
set_option maxHeartbeats 4000000 in
theorem Most_any (F : FL) (f : Fair) (hn : FN f) (w : World) (hF : FairAt w w.heap.size F f) : Calls Tryz.prog 12 #[F.enc f] w fun e w' => NumEnd (mostRet f) e ∧ Below w.heap.size w w' := by
  have hbw := al_below w (.cells #[.slice F.L.Ak f.h.ks.length F.L.ck, .int .i64 f.h.fl, .slice F.L.Ap f.h.ps.length F.L.cp, .slice F.L.Ab f.h.bs.length F.L.cb, .slice F.Ap f.pk.length F.cp, .int .i64 f.day, .int .i64 f.nb, .slice F.Aq f.q.length F.cq] 41)
  have HB := Lib.hid (FBox.new w F f)
  obtain ⟨c0, c1, c2, c3, c4, c5, c6, c7⟩ := (FBox.new w F f).cells
  obtain ⟨W0, hW0⟩ : ∃ W0, w.alloc (.cells #[.slice F.L.Ak f.h.ks.length F.L.ck, .int .i64 f.h.fl, .slice F.L.Ap f.h.ps.length F.L.cp, .slice F.L.Ab f.h.bs.length F.L.cb, .slice F.Ap f.pk.length F.cp, .int .i64 f.day, .int .i64 f.nb, .slice F.Aq f.q.length F.cq] 41) = W0 := ⟨_, rfl⟩
  rw [hW0] at hbw HB c0 c1 c2 c3 c4 c5 c6 c7
  have HBW := Lib.hid hbw
  have HW0 := Lib.hid hW0
  have HF := Lib.hid (hF.below hbw)
  clear hbw hW0 hF
  have HN := Lib.hid hn
  clear hn
  by_cases h0 : askF f true = 0
  · have H66 := Lib.hid (open_yes F f true HN.out W0 HF.out h0)
    have HV := Lib.hid (askF_ok h0).1
    have HFO := Lib.hid (FOK.of HV.out)
    have HA := Lib.hid h0
    clear h0
    obtain ⟨L, Ap, cp, Aq, cq⟩ := F
    go_enter Tryz.func12, Tryz.ntmps12
    go_upto_region 1 with (fail)
    have e := HW0.out
    rw [e]
    clear e
    go_wp2_with (first
      | (go_at_call 34; refine (H66.out).mono ?_; rintro e w1 ⟨⟨b, rfl, hbb, hO⟩, hb1⟩; have B1 := Lib.hid hb1; have HO := Lib.hid hO; have HBB := Lib.hid hbb; clear hb1 hO hbb)
      | (go_at_call 35; refine (most_78 _ f HFO.out _ b allM w1 HO.out (fun m hm X hX => (all_any78 m X).mono fun e X' h => ⟨h.1, h.2 ▸ Below.refl _ _⟩)).mono ?_; rintro e w2 ⟨rfl, hb2⟩; have B2 := Lib.hid hb2; clear hb2))
    go_ret2
    exact ⟨NumEnd.mk (numRF_ok HA.out), hb0to HBW.out (hb0to B1.out B2.out)⟩
  · have H66 := Lib.hid (open_no F f true HN.out W0 HF.out h0)
    obtain ⟨er, her⟩ : ∃ x, x = askF f true := ⟨_, rfl⟩
    have HQ := Lib.hid her
    rw [← her] at H66 h0
    have hd : (er != 0) = true := bne_iff_ne.2 h0
    clear h0 her
    obtain ⟨L, Ap, cp, Aq, cq⟩ := F
    go_enter Tryz.func12, Tryz.ntmps12
    go_upto_region 1 with (fail)
    have e := HW0.out
    rw [e]
    clear e
    go_wp2_with (go_at_call 34; refine (H66.out).mono ?_; rintro e w1 ⟨rfl, hb1⟩; have B1 := Lib.hid hb1; clear hb1)
    go_ret2
    exact ⟨NumEnd.mk (numRF_no HQ.out (bne_iff_ne.1 hd)), hb0to HBW.out B1.out⟩
set_option maxRecDepth 100000 in
set_option maxHeartbeats 4000000 in
theorem Winners_any (F : FL) (f : Fair) (hn : FN f) (w : World) (hF : FairAt w w.heap.size F f) : Calls Tryz.prog 24 #[F.enc f] w fun e w' => ListEnd (winRet f) w.heap.size w' e ∧ Below w.heap.size w w' := by
  have hbw := al_below w (.cells #[.slice F.L.Ak f.h.ks.length F.L.ck, .int .i64 f.h.fl, .slice F.L.Ap f.h.ps.length F.L.cp, .slice F.L.Ab f.h.bs.length F.L.cb, .slice F.Ap f.pk.length F.cp, .int .i64 f.day, .int .i64 f.nb, .slice F.Aq f.q.length F.cq] 41)
  have HB := Lib.hid (FBox.new w F f)
  obtain ⟨c0, c1, c2, c3, c4, c5, c6, c7⟩ := (FBox.new w F f).cells
  obtain ⟨W0, hW0⟩ : ∃ W0, w.alloc (.cells #[.slice F.L.Ak f.h.ks.length F.L.ck, .int .i64 f.h.fl, .slice F.L.Ap f.h.ps.length F.L.cp, .slice F.L.Ab f.h.bs.length F.L.cb, .slice F.Ap f.pk.length F.cp, .int .i64 f.day, .int .i64 f.nb, .slice F.Aq f.q.length F.cq] 41) = W0 := ⟨_, rfl⟩
  rw [hW0] at hbw HB c0 c1 c2 c3 c4 c5 c6 c7
  have HBW := Lib.hid hbw
  have HW0 := Lib.hid hW0
  have HF := Lib.hid (hF.below hbw)
  clear hbw hW0 hF
  have HN := Lib.hid hn
  clear hn
  by_cases h0 : askF f true = 0
  · have H66 := Lib.hid (open_yes F f true HN.out W0 HF.out h0)
    have HV := Lib.hid (askF_ok h0).1
    have HFO := Lib.hid (FOK.of HV.out)
    have HA := Lib.hid h0
    clear h0
    obtain ⟨L, Ap, cp, Aq, cq⟩ := F
    go_enter Tryz.func24, Tryz.ntmps24
    go_upto_region 1 with (fail)
    have e := HW0.out
    rw [e]
    clear e
    go_wp2_with (first
      | (go_at_call 34; refine (H66.out).mono ?_; rintro e w1 ⟨⟨b, rfl, hbb, hO⟩, hb1⟩; have B1 := Lib.hid hb1; have HO := Lib.hid hO; have HBB := Lib.hid hbb; clear hb1 hO hbb)
      | (go_at_call 46; refine (winners_any _ f HFO.out _ b w1 HO.out).mono ?_; rintro e w2 ⟨rfl, hb2⟩; have B2 := Lib.hid hb2; clear hb2)
      | (go_at_call 47; refine (list_any (winS f.q (rdF f)) (Nat.lt_of_lt_of_le (win_of_sets HFO.out.ql HFO.out.pos).1 (pow_eight HFO.out.ql)) w2).mono ?_; rintro e w3 ⟨⟨v3, rfl, hv3⟩, hb3⟩; have B3 := Lib.hid hb3; have HV3 := Lib.hid hv3; clear hb3 hv3))
    go_ret2
    have hv := HV3.out
    rw [bits_eight HFO.out.ql (win_of_sets HFO.out.ql HFO.out.pos).1] at hv
    have hall := hb0to HBW.out (hb0to B1.out (hb0to B2.out B3.out))
    exact ⟨ListEnd.mk (listRF_ok HA.out) (hv.mono (hb0to HBW.out (hb0to B1.out B2.out)).size), hall⟩
  · have H66 := Lib.hid (open_no F f true HN.out W0 HF.out h0)
    obtain ⟨er, her⟩ : ∃ x, x = askF f true := ⟨_, rfl⟩
    have HQ := Lib.hid her
    rw [← her] at H66 h0
    have hd : (er != 0) = true := bne_iff_ne.2 h0
    clear h0 her
    obtain ⟨L, Ap, cp, Aq, cq⟩ := F
    go_enter Tryz.func24, Tryz.ntmps24
    go_upto_region 1 with (fail)
    have e := HW0.out
    rw [e]
    clear e
    go_wp2_with (go_at_call 34; refine (H66.out).mono ?_; rintro e w1 ⟨rfl, hb1⟩; have B1 := Lib.hid hb1; clear hb1)
    go_ret2
    exact ⟨ListEnd.mk (listRF_no HQ.out (bne_iff_ne.1 hd)) (ints_nil _ _), hb0to HBW.out B1.out⟩
open Go.RowKit

/-! Paid 32, Won 36, Pays 23, Need 37. -/
theorem ownL_le {q : List Bid} (hq : ∀ b ∈ q, 0 ≤ b.pay) (v : Int) (l : List Nat) : ownL q v l ≤ bringsL q l := by
  have h1 := own_others q v l
  have h2 : 0 ≤ othersL q v l := brings_nonneg hq _
  omega
theorem payV_le {q : List Bid} {rd : List Int} (hn : q.length ≤ 8) (hq : ∀ b ∈ q, 0 ≤ b.pay ∧ b.pay ≤ 99) (v : Int) : 0 ≤ payV q rd v ∧ payV q rd v ≤ 792 := by
  have h0 := fun b hb => (hq b hb).1
  have h1 := payV_bd (rd := rd) hn h0 v
  have h2 := ownL_le h0 v (winL q rd)
  have h3 := brings_le hq (winL q rd)
  have h4 := bits_len q.length (winS q rd)
  unfold winL at h2 h3 h1
  omega
set_option maxRecDepth 100000 in
set_option maxHeartbeats 4000000 in
theorem Paid_any (F : FL) (f : Fair) (hn : FN f) (w : World) (hF : FairAt w w.heap.size F f) : Calls Tryz.prog 13 #[F.enc f] w fun e w' => NumEnd (paidRet f) e ∧ Below w.heap.size w w' := by
  have hbw := al_below w (.cells #[.slice F.L.Ak f.h.ks.length F.L.ck, .int .i64 f.h.fl, .slice F.L.Ap f.h.ps.length F.L.cp, .slice F.L.Ab f.h.bs.length F.L.cb, .slice F.Ap f.pk.length F.cp, .int .i64 f.day, .int .i64 f.nb, .slice F.Aq f.q.length F.cq] 41)
  have HB := Lib.hid (FBox.new w F f)
  obtain ⟨c0, c1, c2, c3, c4, c5, c6, c7⟩ := (FBox.new w F f).cells
  obtain ⟨W0, hW0⟩ : ∃ W0, w.alloc (.cells #[.slice F.L.Ak f.h.ks.length F.L.ck, .int .i64 f.h.fl, .slice F.L.Ap f.h.ps.length F.L.cp, .slice F.L.Ab f.h.bs.length F.L.cb, .slice F.Ap f.pk.length F.cp, .int .i64 f.day, .int .i64 f.nb, .slice F.Aq f.q.length F.cq] 41) = W0 := ⟨_, rfl⟩
  rw [hW0] at hbw HB c0 c1 c2 c3 c4 c5 c6 c7
  have HBW := Lib.hid hbw
  have HW0 := Lib.hid hW0
  have HF := Lib.hid (hF.below hbw)
  clear hbw hW0 hF
  have HN := Lib.hid hn
  clear hn
  by_cases h0 : askF f true = 0
  · have H66 := Lib.hid (open_yes F f true HN.out W0 HF.out h0)
    have HV := Lib.hid (askF_ok h0).1
    have HFO := Lib.hid (FOK.of HV.out)
    have HA := Lib.hid h0
    clear h0
    obtain ⟨nb, hnb⟩ := Int.eq_ofNat_of_zero_le HFO.out.n0
    have hnb4 : nb ≤ 4 := by have := HFO.out.n1; omega
    have HNB := Lib.hid hnb
    clear hnb
    obtain ⟨L, Ap, cp, Aq, cq⟩ := F
    go_enter Tryz.func13, Tryz.ntmps13
    go_upto_region 1 with (fail)
    have e := HW0.out
    rw [e]
    clear e
    go_wp2_with (first
      | (go_at_call 34; refine (H66.out).mono ?_; rintro e w1 ⟨⟨b, rfl, hbb, hO⟩, hb1⟩; have B1 := Lib.hid hb1; have HO := Lib.hid hO; have HBB := Lib.hid hbb; have r6 := (HB.out.of (hb1.block _ HB.out.lt)).cells.2.2.2.2.2.2.1; rw [HNB.out] at r6; clear hb1 hO hbb)
      | (fail))
    clear r6
    go_loopw [18, 6] (fun i s wr => ∃ (k : Nat) (x : Int), k ≤ nb ∧ i = .int .i64 k ∧ s = .int .i64 x ∧ 0 ≤ x ∧ x ≤ 792 * (k : Int) ∧ Hid (x = paidTo f.q (rdF f) k) ∧ Hid (Below w1.heap.size w1 wr)) (fun i _ _ => nb - (intOf i).toNat)
    case atStart => exact ⟨0, 0, Nat.zero_le _, rfl, rfl, by omega, by omega, Lib.hid rfl, Lib.hid (Below.refl _ _)⟩
    case round =>
      obtain ⟨k, x, hk, rfl, rfl, hx0, hx1, hx, hb⟩ := hrel
      by_cases hlt : k < nb
      · have hp := payV_le (rd := rdF f) HFO.out.ql HFO.out.pay (k : Int)
        have H68 := Lib.hid (pays_any _ f HFO.out _ b (k : Int) wr (HO.out.below hb.out))
        have HN := Lib.hid (show paidTo f.q (rdF f) (k + 1) = paidTo f.q (rdF f) k + payV f.q (rdF f) k from rfl)
        generalize payV f.q (rdF f) (k : Int) = p at hp H68 HN
        go_wp2_with (go_at_call 37; refine H68.out.mono ?_; rintro e w2 ⟨rfl, hb2⟩; have B2 := Lib.hid hb2; clear hb2)
        go_roundw
        case rel => exact ⟨k + 1, x + p, by omega, by go_num, rfl, by omega, by omega, Lib.hid (by rw [HN.out, hx.out]), Lib.hid (hb0to hb.out B2.out)⟩
        case measure => simp [intOf]; omega
      · obtain rfl : k = nb := by omega
        have HQ := Lib.hid (show paidRet f = (x, 0) by unfold paidRet; rw [numRF_ok HA.out, hx.out, HNB.out]; rfl)
        go_wp2_with (fail)
        go_ret2
        exact ⟨NumEnd.mk HQ.out, hb0to HBW.out (hb0to B1.out hb.out)⟩
  · have H66 := Lib.hid (open_no F f true HN.out W0 HF.out h0)
    obtain ⟨er, her⟩ : ∃ x, x = askF f true := ⟨_, rfl⟩
    have HQ := Lib.hid her
    rw [← her] at H66 h0
    have hd : (er != 0) = true := bne_iff_ne.2 h0
    clear h0 her
    obtain ⟨L, Ap, cp, Aq, cq⟩ := F
    go_enter Tryz.func13, Tryz.ntmps13
    go_upto_region 1 with (fail)
    have e := HW0.out
    rw [e]
    clear e
    go_wp2_with (go_at_call 34; refine (H66.out).mono ?_; rintro e w1 ⟨rfl, hb1⟩; have B1 := Lib.hid hb1; clear hb1)
    go_ret2
    exact ⟨NumEnd.mk (numRF_no HQ.out (bne_iff_ne.1 hd)), hb0to HBW.out B1.out⟩
set_option maxRecDepth 100000 in
set_option maxHeartbeats 4000000 in
theorem Won_any (F : FL) (f : Fair) (hn : FN f) (x : Int) (w : World) (hF : FairAt w w.heap.size F f) : Calls Tryz.prog 14 #[F.enc f, .int .i64 x] w fun e w' => NumEnd (wonRet f x) e ∧ Below w.heap.size w w' := by
  have hbw := al_below w (.cells #[.slice F.L.Ak f.h.ks.length F.L.ck, .int .i64 f.h.fl, .slice F.L.Ap f.h.ps.length F.L.cp, .slice F.L.Ab f.h.bs.length F.L.cb, .slice F.Ap f.pk.length F.cp, .int .i64 f.day, .int .i64 f.nb, .slice F.Aq f.q.length F.cq] 41)
  have HB := Lib.hid (FBox.new w F f)
  obtain ⟨c0, c1, c2, c3, c4, c5, c6, c7⟩ := (FBox.new w F f).cells
  obtain ⟨W0, hW0⟩ : ∃ W0, w.alloc (.cells #[.slice F.L.Ak f.h.ks.length F.L.ck, .int .i64 f.h.fl, .slice F.L.Ap f.h.ps.length F.L.cp, .slice F.L.Ab f.h.bs.length F.L.cb, .slice F.Ap f.pk.length F.cp, .int .i64 f.day, .int .i64 f.nb, .slice F.Aq f.q.length F.cq] 41) = W0 := ⟨_, rfl⟩
  rw [hW0] at hbw HB c0 c1 c2 c3 c4 c5 c6 c7
  have HBW := Lib.hid hbw
  have HW0 := Lib.hid hW0
  have HF := Lib.hid (hF.below hbw)
  clear hbw hW0 hF
  have HN := Lib.hid hn
  have hqn := hn.q
  obtain ⟨is, his⟩ : ∃ b, b = inR x 0 ((f.q.length : Int) - 1) := ⟨_, rfl⟩
  have H73 := Lib.hid (fun W => by have := isBid_any F f x hqn W; rw [← his] at this; exact this)
  have HIS := Lib.hid his
  clear hn
  by_cases h0 : askF f is = 0
  · have hi := (askF_ok h0).2
    have HV := Lib.hid (askF_ok h0).1
    have HFO := Lib.hid (FOK.of HV.out)
    have HA := Lib.hid h0
    have H66 := Lib.hid (fun W hW => open_yes F f is HN.out W hW h0)
    have HR := Lib.hid (inR_true.1 (his.symm.trans hi))
    clear h0 his
    subst hi
    obtain ⟨xn, rfl⟩ := Int.eq_ofNat_of_zero_le HR.out.1
    have hxn : xn < f.q.length := by have := HR.out.2; omega
    have HQ0 := Lib.hid (show wonRet f (xn : Int) = (wonN (withV f.q (rdF f) xn) (outV f.q (rdF f) xn), 0) by unfold wonRet isBid; rw [← HIS.out, numRF_ok HA.out, Int.toNat_natCast])
    have H74 := Lib.hid (fun b W hW => with_any F f HFO.out (rdF f) b xn hxn W hW)
    have H75 := Lib.hid (fun b W hW => out_any F f HFO.out (rdF f) b xn hxn W hW)
    generalize withV f.q (rdF f) xn = w1v at HQ0 H74
    generalize outV f.q (rdF f) xn = w0v at HQ0 H75
    obtain ⟨L, Ap, cp, Aq, cq⟩ := F
    go_enter Tryz.func14, Tryz.ntmps14
    go_upto_region 1 with (fail)
    have e := HW0.out
    rw [e]
    clear e
    go_region_held3 (fun w' => w'.cell? ⟨w.heap.size, 0, none⟩ = some (.slice L.Ak f.h.ks.length L.ck) ∧ w'.cell? ⟨w.heap.size, 1, none⟩ = some (.int .i64 f.h.fl) ∧ w'.cell? ⟨w.heap.size, 2, none⟩ = some (.slice L.Ap f.h.ps.length L.cp) ∧ w'.cell? ⟨w.heap.size, 3, none⟩ = some (.slice L.Ab f.h.bs.length L.cb) ∧ w'.cell? ⟨w.heap.size, 4, none⟩ = some (.slice Ap f.pk.length cp) ∧ w'.cell? ⟨w.heap.size, 5, none⟩ = some (.int .i64 f.day) ∧ w'.cell? ⟨w.heap.size, 6, none⟩ = some (.int .i64 f.nb) ∧ w'.cell? ⟨w.heap.size, 7, none⟩ = some (.slice Aq f.q.length cq)) (first | go_keep)
      (first
        | (go_at_call 38; refine (H73.out _).mono ?_; rintro e w1 ⟨rfl, hb1⟩; have hk1 : Below W0.heap.size W0 w1 := (by first | exact hb1 | exact hb0to (drew_below W0) hb1); have B1 := Lib.hid hk1; obtain ⟨r0, r1, r2, r3, r4, r5, r6, r7⟩ := (HB.out.of (hk1.block _ HB.out.lt)).cells; clear hb1 hk1)
        | (go_at_call 34; refine (H66.out w1 (HF.out.below B1.out)).mono ?_; rintro e w2 ⟨⟨b, rfl, hbb, hO⟩, hb2⟩; have B2 := Lib.hid (hb0to B1.out hb2); have HO := Lib.hid hO; have HBB := Lib.hid hbb; clear hO hbb; obtain ⟨r0, r1, r2, r3, r4, r5, r6, r7⟩ := (HB.out.of (B2.out.block _ HB.out.lt)).cells; clear hb2))
    all_goals
      have hc : (w0v < w1v ∧ wonN w1v w0v = 1) ∨ (¬ w0v < w1v ∧ w1v < w0v ∧ wonN w1v w0v = 2) ∨ (¬ w0v < w1v ∧ ¬ w1v < w0v ∧ wonN w1v w0v = 3) := by
        unfold wonN
        by_cases a : w0v < w1v
        · exact .inl ⟨a, if_pos a⟩
        · by_cases a2 : w1v < w0v
          · exact .inr (.inl ⟨a, a2, by rw [if_neg a, if_pos a2]⟩)
          · exact .inr (.inr ⟨a, a2, by rw [if_neg a, if_neg a2]⟩)
      rcases hc with ⟨a, q⟩ | ⟨a, a2, q⟩ | ⟨a, a2, q⟩
      all_goals
        rw [q] at HQ0
        clear q
        go_wp2_with (first
          | (go_at_call 39; refine (H74.out b _ HO.out).mono ?_; rintro e w3 ⟨rfl, hb3⟩; have B3 := Lib.hid hb3; clear hb3)
          | (go_at_call 40; refine (H75.out b _ (HO.out.below B3.out)).mono ?_; rintro e w4 ⟨rfl, hb4⟩; have B4 := Lib.hid hb4; clear hb4))
        go_ret2
        exact ⟨NumEnd.mk HQ0.out, hb0to HBW.out (hb0to B2.out (hb0to B3.out B4.out))⟩
  · have H66 := Lib.hid (fun W hW => open_no F f is HN.out W hW h0)
    obtain ⟨er, her⟩ : ∃ x, x = askF f is := ⟨_, rfl⟩
    have HQ := Lib.hid her
    rw [← her] at H66 h0
    have hd : (er != 0) = true := bne_iff_ne.2 h0
    clear h0 her his
    obtain ⟨L, Ap, cp, Aq, cq⟩ := F
    go_enter Tryz.func14, Tryz.ntmps14
    go_upto_region 1 with (fail)
    have e := HW0.out
    rw [e]
    clear e
    go_region_held3 (fun w' => w'.cell? ⟨w.heap.size, 0, none⟩ = some (.slice L.Ak f.h.ks.length L.ck) ∧ w'.cell? ⟨w.heap.size, 1, none⟩ = some (.int .i64 f.h.fl) ∧ w'.cell? ⟨w.heap.size, 2, none⟩ = some (.slice L.Ap f.h.ps.length L.cp) ∧ w'.cell? ⟨w.heap.size, 3, none⟩ = some (.slice L.Ab f.h.bs.length L.cb) ∧ w'.cell? ⟨w.heap.size, 4, none⟩ = some (.slice Ap f.pk.length cp) ∧ w'.cell? ⟨w.heap.size, 5, none⟩ = some (.int .i64 f.day) ∧ w'.cell? ⟨w.heap.size, 6, none⟩ = some (.int .i64 f.nb) ∧ w'.cell? ⟨w.heap.size, 7, none⟩ = some (.slice Aq f.q.length cq)) (first | go_keep)
      (first
        | (go_at_call 38; refine (H73.out _).mono ?_; rintro e w1 ⟨rfl, hb1⟩; have hk1 : Below W0.heap.size W0 w1 := (by first | exact hb1 | exact hb0to (drew_below W0) hb1); have B1 := Lib.hid hk1; obtain ⟨r0, r1, r2, r3, r4, r5, r6, r7⟩ := (HB.out.of (hk1.block _ HB.out.lt)).cells; clear hb1 hk1)
        | (go_at_call 34; refine (H66.out w1 (HF.out.below B1.out)).mono ?_; rintro e w2 ⟨rfl, hb2⟩; have B2 := Lib.hid (hb0to B1.out hb2); obtain ⟨r0, r1, r2, r3, r4, r5, r6, r7⟩ := (HB.out.of (B2.out.block _ HB.out.lt)).cells; clear hb2))
    all_goals
      go_wp2_with (fail)
      go_ret2
      exact ⟨NumEnd.mk (by unfold wonRet isBid; rw [← HIS.out]; exact numRF_no HQ.out (bne_iff_ne.1 hd)), hb0to HBW.out B2.out⟩
end Go.Proofs.YtmbcpmnigggbaabGreat
namespace Go.Proofs.YtmbcpmnigggbaabGreat
open Go.RowKit

/-! The specification's IsBuyer 17, IsBid 35, IsDay 27, Check 48, ask 82. -/
theorem rwithin_any (n lo hi : Int) (w : World) : Calls Tryz.prog 28 #[.int .i64 n, .int .i64 lo, .int .i64 hi] w fun e w' => e = .returned (.bool (inR n lo hi)) ∧ w = w' := by
  go_enter Tryz.func28, Tryz.ntmps28
  go_wp2_with (go_at_call 41; refine (within1_any _ _ _ _).mono ?_; rintro e w' ⟨rfl, rfl⟩)
  go_ret
  exact ⟨rfl, rfl⟩
set_option maxRecDepth 100000 in
set_option maxHeartbeats 4000000 in
theorem rIsBuyer_any (F : FL) (f : Fair) (n : Int) (h0 : 0 ≤ f.nb) (h4 : f.nb ≤ 4) (w : World) : Calls Tryz.prog 29 #[F.enc f, .int .i64 n] w fun e w' => e = .returned (.bool (isBuyer f n)) ∧ Below w.heap.size w w' := by
  have hbw := al_below w (.cells #[.slice F.L.Ak f.h.ks.length F.L.ck, .int .i64 f.h.fl, .slice F.L.Ap f.h.ps.length F.L.cp, .slice F.L.Ab f.h.bs.length F.L.cb, .slice F.Ap f.pk.length F.cp, .int .i64 f.day, .int .i64 f.nb, .slice F.Aq f.q.length F.cq] 41)
  obtain ⟨c0, c1, c2, c3, c4, c5, c6, c7⟩ := (FBox.new w F f).cells
  obtain ⟨W0, hW0⟩ : ∃ W0, w.alloc (.cells #[.slice F.L.Ak f.h.ks.length F.L.ck, .int .i64 f.h.fl, .slice F.L.Ap f.h.ps.length F.L.cp, .slice F.L.Ab f.h.bs.length F.L.cb, .slice F.Ap f.pk.length F.cp, .int .i64 f.day, .int .i64 f.nb, .slice F.Aq f.q.length F.cq] 41) = W0 := ⟨_, rfl⟩
  rw [hW0] at hbw c0 c1 c2 c3 c4 c5 c6 c7
  have HBW := Lib.hid hbw
  have HW0 := Lib.hid hW0
  clear hbw hW0 c0 c1 c2 c3 c4 c5 c7
  obtain ⟨L, Ap, cp, Aq, cq⟩ := F
  go_enter Tryz.func29, Tryz.ntmps29
  go_upto_region 1 with (fail)
  have e := HW0.out
  rw [e]
  clear e
  go_wp2_with (go_at_call 28; refine (rwithin_any _ _ _ _).mono ?_; rintro e w' ⟨rfl, rfl⟩)
  go_ret
  exact ⟨rfl, HBW.out⟩
set_option maxRecDepth 100000 in
set_option maxHeartbeats 4000000 in
theorem rcheckF_any (F : FL) (f : Fair) (hn : FN f) (w : World) (hF : FairAt w w.heap.size F f) : Calls Tryz.prog 10 #[F.enc f] w fun e w' => e = .returned (.int .i64 (ckF f)) ∧ Below w.heap.size w w' := by
  have hbw := al_below w (.cells #[.slice F.L.Ak f.h.ks.length F.L.ck, .int .i64 f.h.fl, .slice F.L.Ap f.h.ps.length F.L.cp, .slice F.L.Ab f.h.bs.length F.L.cb, .slice F.Ap f.pk.length F.cp, .int .i64 f.day, .int .i64 f.nb, .slice F.Aq f.q.length F.cq] 41)
  have HB := Lib.hid (FBox.new w F f)
  obtain ⟨c0, c1, c2, c3, c4, c5, c6, c7⟩ := (FBox.new w F f).cells
  obtain ⟨W0, hW0⟩ : ∃ W0, w.alloc (.cells #[.slice F.L.Ak f.h.ks.length F.L.ck, .int .i64 f.h.fl, .slice F.L.Ap f.h.ps.length F.L.cp, .slice F.L.Ab f.h.bs.length F.L.cb, .slice F.Ap f.pk.length F.cp, .int .i64 f.day, .int .i64 f.nb, .slice F.Aq f.q.length F.cq] 41) = W0 := ⟨_, rfl⟩
  rw [hW0] at hbw HB c0 c1 c2 c3 c4 c5 c6 c7
  have HBW := Lib.hid hbw
  have HW0 := Lib.hid hW0
  have HF := Lib.hid (hF.below hbw)
  clear hbw hW0 hF
  have HN := Lib.hid hn
  have hqn := hn.q
  clear hn
  obtain ⟨L, Ap, cp, Aq, cq⟩ := F
  cases hv : validH f.h
  · rw [ckF_no (valid_no1 (by simp [packOK, hv]))]
    have H87 := Lib.hid (by have := rcheck_any L f.h HN.out.h W0 HF.out.h; rw [ckH_no hv] at this; exact this)
    clear hv
    go_enter Tryz.func10, Tryz.ntmps10
    go_upto_region 1 with (fail)
    have e := HW0.out
    rw [e]
    clear e
    go_wp2_with (first
      | (go_at_call 26; refine H87.out.mono ?_; rintro e W1 ⟨rfl, hb1⟩; have B1 := Lib.hid hb1; clear hb1))
    go_ret
    exact ⟨rfl, hb0to HBW.out B1.out⟩
  have HV := Lib.hid (HOK.ofValid hv)
  have H87 := Lib.hid (by have := rcheck_any L f.h HN.out.h W0 HF.out.h; rw [ckH_yes hv] at this; exact this)
  cases hg : goodB f.h f.pk
  · rw [ckF_no (valid_no1 (by simp [packOK, hg]))]
    have H88 := Lib.hid (fun W h1 h2 => by have := isPacking_any L f.h HV.out f.pk HN.out.p Ap cp W h1 h2; rw [hg] at this; exact this)
    clear hv hg
    go_enter Tryz.func10, Tryz.ntmps10
    go_upto_region 1 with (fail)
    have e := HW0.out
    rw [e]
    clear e
    go_wp2_with (first
      | (go_at_call 26; refine H87.out.mono ?_; rintro e W1 ⟨rfl, hb1⟩; have B1 := Lib.hid hb1; obtain ⟨g0, g1, g2, g3, g4, g5, g6, g7⟩ := (HB.out.of (hb1.block _ HB.out.lt)).cells; clear hb1)
      | (go_at_call 27; refine (H88.out W1 (HF.out.below B1.out).h (HF.out.below B1.out).p).mono ?_; rintro e W2 ⟨rfl, hb2⟩; have B2 := Lib.hid (hb0to B1.out hb2); clear hb2))
    go_ret
    exact ⟨rfl, hb0to HBW.out B2.out⟩
  have HPK : Hid (packOK f = true) := Lib.hid (by simp [packOK, hv, hg])
  have H88 := Lib.hid (fun W h1 h2 => by have := isPacking_any L f.h HV.out f.pk HN.out.p Ap cp W h1 h2; rw [hg] at this; exact this)
  clear hv hg
  cases h1 : inR f.day 0 20
  · rw [ckF_no (valid_no2 (by simp [numsOK, h1]))]
    go_enter Tryz.func10, Tryz.ntmps10
    go_upto_region 1 with (fail)
    have e := HW0.out
    rw [e]
    clear e
    go_wp2_with (first
      | (go_at_call 26; refine H87.out.mono ?_; rintro e W1 ⟨rfl, hb1⟩; have B1 := Lib.hid hb1; obtain ⟨g0, g1, g2, g3, g4, g5, g6, g7⟩ := (HB.out.of (hb1.block _ HB.out.lt)).cells; clear hb1)
      | (go_at_call 27; refine (H88.out W1 (HF.out.below B1.out).h (HF.out.below B1.out).p).mono ?_; rintro e W2 ⟨rfl, hb2⟩; have B2 := Lib.hid (hb0to B1.out hb2); obtain ⟨g0, g1, g2, g3, g4, g5, g6, g7⟩ := (HB.out.of (B2.out.block _ HB.out.lt)).cells; clear hb2)
      | (go_at_call 28; refine (rwithin_any _ _ _ _).mono ?_; rintro e w' ⟨rfl, rfl⟩))
    go_ret
    exact ⟨rfl, hb0to HBW.out B2.out⟩
  cases h2 : inR f.nb 0 4
  · rw [ckF_no (valid_no2 (by simp [numsOK, h2]))]
    go_enter Tryz.func10, Tryz.ntmps10
    go_upto_region 1 with (fail)
    have e := HW0.out
    rw [e]
    clear e
    go_wp2_with (first
      | (go_at_call 26; refine H87.out.mono ?_; rintro e W1 ⟨rfl, hb1⟩; have B1 := Lib.hid hb1; obtain ⟨g0, g1, g2, g3, g4, g5, g6, g7⟩ := (HB.out.of (hb1.block _ HB.out.lt)).cells; clear hb1)
      | (go_at_call 27; refine (H88.out W1 (HF.out.below B1.out).h (HF.out.below B1.out).p).mono ?_; rintro e W2 ⟨rfl, hb2⟩; have B2 := Lib.hid (hb0to B1.out hb2); obtain ⟨g0, g1, g2, g3, g4, g5, g6, g7⟩ := (HB.out.of (B2.out.block _ HB.out.lt)).cells; clear hb2)
      | (go_at_call 28; refine (rwithin_any _ _ _ _).mono ?_; rintro e w' ⟨rfl, rfl⟩))
    go_ret
    exact ⟨rfl, hb0to HBW.out B2.out⟩
  have hnbr := inR_true.1 h2
  by_cases h3 : 8 < f.q.length
  · rw [ckF_no (valid_no2 (by simp [numsOK]; omega))]
    go_enter Tryz.func10, Tryz.ntmps10
    go_upto_region 1 with (fail)
    have e := HW0.out
    rw [e]
    clear e
    go_wp2_with (first
      | (go_at_call 26; refine H87.out.mono ?_; rintro e W1 ⟨rfl, hb1⟩; have B1 := Lib.hid hb1; obtain ⟨g0, g1, g2, g3, g4, g5, g6, g7⟩ := (HB.out.of (hb1.block _ HB.out.lt)).cells; clear hb1)
      | (go_at_call 27; refine (H88.out W1 (HF.out.below B1.out).h (HF.out.below B1.out).p).mono ?_; rintro e W2 ⟨rfl, hb2⟩; have B2 := Lib.hid (hb0to B1.out hb2); obtain ⟨g0, g1, g2, g3, g4, g5, g6, g7⟩ := (HB.out.of (B2.out.block _ HB.out.lt)).cells; clear hb2)
      | (go_at_call 28; refine (rwithin_any _ _ _ _).mono ?_; rintro e w' ⟨rfl, rfl⟩))
    go_ret
    exact ⟨rfl, hb0to HBW.out B2.out⟩
  have HNU : Hid (numsOK f = true) := Lib.hid (by simp [numsOK, h1, h2]; omega)
  go_enter Tryz.func10, Tryz.ntmps10
  go_upto_region 1 with (fail)
  have e := HW0.out
  rw [e]
  clear e
  go_wp2_with (first
    | (go_at_call 26; refine H87.out.mono ?_; rintro e W1 ⟨rfl, hb1⟩; have B1 := Lib.hid hb1; obtain ⟨g0, g1, g2, g3, g4, g5, g6, g7⟩ := (HB.out.of (hb1.block _ HB.out.lt)).cells; clear hb1)
    | (go_at_call 27; refine (H88.out W1 (HF.out.below B1.out).h (HF.out.below B1.out).p).mono ?_; rintro e W2 ⟨rfl, hb2⟩; have B2 := Lib.hid (hb0to B1.out hb2); obtain ⟨g0, g1, g2, g3, g4, g5, g6, g7⟩ := (HB.out.of (B2.out.block _ HB.out.lt)).cells; clear hb2)
    | (go_at_call 28; refine (rwithin_any _ _ _ _).mono ?_; rintro e w' ⟨rfl, rfl⟩))
  clear h1 h2 g0 g1 g2 g3 g4 g5 g6 g7
  go_loopw [3] (fun i wr => ∃ k : Nat, k ≤ f.q.length ∧ i = .int .i64 k ∧ Hid (∀ j b, j < k → f.q[j]? = some b → bidOK f b = true) ∧ Hid (Below W0.heap.size W0 wr)) (fun i _ => f.q.length - (intOf i).toNat)
  case atStart => exact ⟨0, Nat.zero_le _, rfl, Lib.hid (fun j x hj => by omega), B2⟩
  case round =>
    obtain ⟨k, hk, rfl, hok, hb⟩ := hrel
    have hFr := HB.out.of (hb.out.block _ HB.out.lt)
    obtain ⟨g0, g1, g2, g3, g4, g5, g6, g7⟩ := hFr.cells
    by_cases hlt : k < f.q.length
    · obtain ⟨x, hx⟩ : ∃ x, f.q[k]? = some x := ⟨_, List.getElem?_eq_getElem hlt⟩
      obtain ⟨bk, ok, A', c', eA, hbk, d1, d2, d3, hA', hI⟩ := HF.out.q.at_ hx
      have e1 := below_cell hb.out d1
      have e2 := below_cell hb.out d2
      have e3 := below_cell hb.out d3
      have hx4 := HN.out.b x (List.mem_of_getElem? hx)
      have hbs := HN.out.h.2.2
      have HX := Lib.hid hx
      have HI := Lib.hid hI
      rw [show Aq = _ from eA] at g7
      have hb5 := al_below wr (.cells #[.int .i64 x.who, .slice A' x.bar.length c', .int .i64 x.pay] 44)
      have hbb := BBox.new wr A' c' x
      obtain ⟨W5, hW5⟩ : ∃ W5, wr.alloc (.cells #[.int .i64 x.who, .slice A' x.bar.length c', .int .i64 x.pay] 44) = W5 := ⟨_, rfl⟩
      rw [hW5] at hb5 hbb
      have HBB := Lib.hid hbb
      have HB5 := Lib.hid (hb0to hb.out hb5)
      have HW5 := Lib.hid hW5
      have HF5 := Lib.hid (HF.out.below HB5.out)
      have HFB := Lib.hid (HB.out.of (HB5.out.block _ HB.out.lt))
      have HEA := Lib.hid eA
      clear hx hI hA' d1 d2 d3 hb5 hbb hW5 hFr eA
      go_upto_region 9 with (fail)
      have e := HW5.out
      rw [e]
      clear e g0 g1 g2 g3 g4 g5 g6 g7 e1 e2 e3
      obtain ⟨k0, k1, k2⟩ := HBB.out.cells
      obtain ⟨g0, g1, g2, g3, g4, g5, g6, g7⟩ := HFB.out.cells
      cases h1 : isBuyer f x.who
      · have hno : Hid (bidOK f x = false) := Lib.hid (by have : inR x.who 0 (f.nb - 1) = false := h1; simp [bidOK, this])
        have H17 := Lib.hid (by have := rIsBuyer_any ⟨L, Ap, cp, Aq, cq⟩ f x.who hnbr.1 hnbr.2 W5; rw [h1] at this; exact this)
        clear h1
        go_wp2_with (go_at_call 29; refine H17.out.mono ?_; rintro e W6 ⟨rfl, hb6⟩; have B6 := Lib.hid (hb0to HB5.out hb6); clear hb6)
        go_ret
        exact ⟨by rw [ckF_no (bids_no HX.out hno.out)]; rfl, hb0to HBW.out B6.out⟩
      have H17 := Lib.hid (by have := rIsBuyer_any ⟨L, Ap, cp, Aq, cq⟩ f x.who hnbr.1 hnbr.2 W5; rw [h1] at this; exact this)
      by_cases h3 : x.bar.length = 0
      · have hno : Hid (bidOK f x = false) := Lib.hid (by simp [bidOK, List.length_eq_zero_iff.1 h3])
        have h3' : ((x.bar.length : Int) == 0) = true := by simpa using h3
        clear h1 h3
        go_wp2_with (go_at_call 29; refine H17.out.mono ?_; rintro e W6 ⟨rfl, hb6⟩; have B6 := Lib.hid (hb0to HB5.out hb6); have p1 := below_cell hb6 k1; clear hb6)
        go_ret
        exact ⟨by rw [ckF_no (bids_no HX.out hno.out)]; rfl, hb0to HBW.out B6.out⟩
      have h3' : ((x.bar.length : Int) == 0) = false := by simpa using h3
      have H89 := Lib.hid (fun W (hW : Below W5.heap.size W5 W) => rising_any x.bar hx4 f.h.bs.length A' c' W (ints_later HI.out (hb0to HB5.out hW)))
      cases h4 : riseB x.bar f.h.bs.length
      · have hno : Hid (bidOK f x = false) := Lib.hid (by simp [bidOK, h4])
        rw [h4] at H89
        clear h1 h3 h4
        go_wp2_with (first
          | (go_at_call 29; refine H17.out.mono ?_; rintro e W6 ⟨rfl, hb6⟩; have B6 := Lib.hid hb6; have p1 := below_cell hb6 k1; have p3 := below_cell hb6 g3; clear hb6)
          | (go_at_call 19; refine (H89.out W6 B6.out).mono ?_; rintro e W7 ⟨rfl, hb7⟩; have B7 := Lib.hid (hb0to B6.out hb7); clear hb7))
        go_ret
        exact ⟨by rw [ckF_no (bids_no HX.out hno.out)]; rfl, hb0to HBW.out (hb0to HB5.out B7.out)⟩
      rw [h4] at H89
      cases h5 : inR x.pay 0 99
      · have hno : Hid (bidOK f x = false) := Lib.hid (by simp [bidOK, h5])
        clear h1 h3 h4
        go_wp2_with (first
          | (go_at_call 29; refine H17.out.mono ?_; rintro e W6 ⟨rfl, hb6⟩; have B6 := Lib.hid hb6; have p1 := below_cell hb6 k1; have p3 := below_cell hb6 g3; clear hb6)
          | (go_at_call 19; refine (H89.out W6 B6.out).mono ?_; rintro e W7 ⟨rfl, hb7⟩; have B7 := Lib.hid (hb0to B6.out hb7); have p2 := below_cell B7.out k2; clear hb7)
          | (go_at_call 28; refine (rwithin_any _ _ _ _).mono ?_; rintro e w' ⟨rfl, rfl⟩))
        go_ret
        exact ⟨by rw [ckF_no (bids_no HX.out hno.out)]; rfl, hb0to HBW.out (hb0to HB5.out B7.out)⟩
      have hbk : Hid (bidOK f x = true) := Lib.hid (by have h1' : inR x.who 0 (f.nb - 1) = true := h1; have hne : x.bar ≠ [] := fun e => h3 (by rw [e]; rfl); simp [bidOK, h1', h4, h5, hne])
      clear h1 h3 h4
      go_wp2_with (first
        | (go_at_call 29; refine H17.out.mono ?_; rintro e W6 ⟨rfl, hb6⟩; have B6 := Lib.hid hb6; have p1 := below_cell hb6 k1; have p3 := below_cell hb6 g3; clear hb6)
        | (go_at_call 19; refine (H89.out W6 B6.out).mono ?_; rintro e W7 ⟨rfl, hb7⟩; have B7 := Lib.hid (hb0to B6.out hb7); have p2 := below_cell B7.out k2; clear hb7)
        | (go_at_call 28; refine (rwithin_any _ _ _ _).mono ?_; rintro e w' ⟨rfl, rfl⟩))
      go_roundw
      case rel => exact ⟨k + 1, by omega, by go_num, Lib.hid (fun m b hm hb' => by
        by_cases e : m = k
        · subst e
          have := HX.out.symm.trans hb'
          cases this
          exact hbk.out
        · exact hok.out m b (by omega) hb'), Lib.hid (hb0to HB5.out B7.out)⟩
      case measure => simp [intOf]; omega
    · obtain rfl : k = f.q.length := by omega
      have hall : Hid (f.q.all (bidOK f) = true) := Lib.hid (bids_all hok.out)
      clear hok hlt hk
      go_wp2_with (fail)
      go_ret
      exact ⟨by rw [ckF_yes (by rw [validF, HPK.out, HNU.out, hall.out]; rfl)]; rfl, hb0to HBW.out hb.out⟩
end Go.Proofs.YtmbcpmnigggbaabGreat
namespace Go.Proofs.YtmbcpmnigggbaabGreat
open Go.RowKit

open Go.RowKit

end Go.Proofs.YtmbcpmnigggbaabGreat
namespace Go.Proofs.YtmbcpmnigggbaabGreat
open Go.RowKit

/-! Good 50. -/
theorem bits_or : ∀ N, N ≤ 8 → ∀ j, j < N → ∀ m, m < 2 ^ j → bitsL N (m ||| 2 ^ j) = bitsL N m ++ [j] ∧ m ||| 2 ^ j < 2 ^ (j + 1) := by decide +kernel
def BoolEnd (r : Bool × Int) (e : Ending) : Prop := e = .returned (.tuple #[.bool r.1, .int .i64 r.2])
theorem BoolEnd.mk {r : Bool × Int} {x : Bool} {y : Int} (h : r = (x, y)) : BoolEnd r (.returned (.tuple #[.bool x, .int .i64 y])) := by unfold BoolEnd; rw [h]
/-- What Good knows of the first numbers of a list: their bits. -/
structure GoodTo (q : List Bid) (l : List Int) (k m b : Nat) : Prop where
  lt : m < 2 ^ b
  le : b ≤ q.length
  bits : bitsL q.length m = (l.take k).map Int.toNat
  last : 0 < k → (b : Int) = l.getD (k - 1) 0 + 1
  zero : k = 0 → b = 0
theorem GoodTo.next {q : List Bid} {l : List Int} {k m b n : Nat} (h : GoodTo q l k m b) (hq : q.length ≤ 8) (hx : l[k]? = some (n : Int)) (hn : n < q.length) (hb : b ≤ n) : GoodTo q l (k + 1) (m ||| 2 ^ n) (n + 1) := by
  obtain ⟨h1, h2⟩ := bits_or q.length hq n hn m (Nat.lt_of_lt_of_le h.lt (Nat.pow_le_pow_right (by omega) hb))
  refine ⟨h2, hn, ?_, fun _ => ?_, fun h => by omega⟩
  · rw [h1, h.bits, (take_snoc_next hx).symm, List.map_append]; simp
  · rw [Nat.add_sub_cancel, List.getD, hx]; simp
end Go.Proofs.YtmbcpmnigggbaabGreat
namespace Go.Proofs.YtmbcpmnigggbaabGreat
open Go.RowKit

open Go.RowKit

end Go.Proofs.YtmbcpmnigggbaabGreat
namespace Go.Proofs.YtmbcpmnigggbaabGreat
open Go.RowKit

open Go.RowKit

/-- All sales, in order. -/
structure SalesL (q : List Bid) (rd : List Int) (S : List (List Nat)) : Prop where
  up : S.Pairwise aheadP
  mem : ∀ l, l ∈ S ↔ SaleL q rd l
  len : S.length ≤ 100000
theorem SalesL.first {q : List Bid} {rd : List Int} {S : List (List Nat)} (h : SalesL q rd S) : S[0]? = some [] := by
  obtain ⟨j, hj⟩ := List.getElem?_of_mem ((h.mem []).2 (SaleL.nil q rd))
  obtain ⟨k1, k2⟩ := List.getElem?_eq_some_iff.1 hj
  rcases Nat.eq_zero_or_pos j with e | e
  · subst e; exact hj
  · exfalso
    have := List.pairwise_iff_getElem.1 h.up 0 j (by omega) k1 e
    rw [k2] at this
    rcases this with h1 | ⟨h1, h2⟩
    · simp at h1
    · have h3 := List.length_eq_zero_iff.1 h1
      rw [h3] at h2; simp [earlierN] at h2
open Go.RowKit

/-! The specification's WinnersOf 81, MostOf 79, Most 41, Winners 43, Known 108, wonOf 83, Won 44. -/
def IntsRet (l : List Int) (lo : Nat) (w' : World) (e : Ending) : Prop := ∃ A c, e = .returned (.slice A l.length c) ∧ (A = none → c = 0 ∧ l = []) ∧ IntsIn w' lo w'.heap.size A l
theorem IntsRet.of {l : List Int} {lo : Nat} {w' : World} {e : Ending} {v : Value} (he : e = .returned v) (h : Ints w' lo v l) : IntsRet l lo w' e := by
  obtain ⟨A, c, h1, h2, _, h3⟩ := h.lay
  exact ⟨A, c, by rw [he, h1], h2, h3⟩
end Go.Proofs.YtmbcpmnigggbaabGreat
