import Derived.Test.YtmbcpmnigggbaaaRA
namespace Go.Proofs.Ytmbcpmnigggbaaa
open Go.RowKit

/-! The specification's ReadyOf 90, Ready 49. -/
theorem rise_iff {l : List Int} {n : Int} : riseB l n = true ↔ l.Pairwise (· < ·) ∧ ∀ x ∈ l, 0 ≤ x ∧ x < n := by
  constructor
  · intro h
    have hat : ∀ (k : Nat) (x : Int), l[k]? = some x → (0 ≤ x ∧ x < n) ∧ ∀ y, 0 < k → l[k - 1]? = some y → y < x := fun k x hx => by
      have hk := (List.getElem?_eq_some_iff.1 hx).1
      have h1 := riseB_at h hk
      unfold riseOK at h1
      rw [Bool.and_eq_true, inR_true, show l.getD k 0 = x by simp [List.getD, hx]] at h1
      refine ⟨by omega, fun y hk0 hy => ?_⟩
      rw [show l.getD (k - 1) 0 = y by simp [List.getD, hy]] at h1
      have h2 := h1.2
      rw [Bool.or_eq_true, decide_eq_true_eq] at h2
      rcases h2 with h2 | h2
      · simp at h2; omega
      · exact h2
    refine ⟨?_, fun x hx => by obtain ⟨k, hk⟩ := List.mem_iff_getElem?.1 hx; exact (hat k x hk).1⟩
    rw [List.pairwise_iff_getElem]
    have step : ∀ (d i : Nat) (hi : i < l.length) (hj : i + d + 1 < l.length), l[i] < l[i + d + 1] := fun d => by
      induction d with
      | zero => intro i hi hj; exact (hat (i + 0 + 1) _ (List.getElem?_eq_getElem hj)).2 _ (by omega) (by simp)
      | succ d ih =>
        intro i hi hj
        have h1 := ih i hi (by omega)
        have h2 := (hat (i + (d + 1) + 1) _ (List.getElem?_eq_getElem hj)).2 (l[i + d + 1]'(by omega)) (by omega) (by rw [show i + (d + 1) + 1 - 1 = i + d + 1 by omega]; exact List.getElem?_eq_getElem (by omega))
        omega
    intro i j hi hj hij
    obtain ⟨d, rfl⟩ : ∃ d, j = i + d + 1 := ⟨j - i - 1, by omega⟩
    exact step d i hi hj
  · rintro ⟨h1, h2⟩
    refine riseB_yes fun k hk => ?_
    unfold riseOK
    rw [Bool.and_eq_true, inR_true, Bool.or_eq_true, decide_eq_true_eq]
    have hx : l.getD k 0 = l[k] := by simp [List.getD, List.getElem?_eq_getElem hk]
    have hm := h2 _ (List.getElem_mem hk)
    rw [hx]
    refine ⟨by omega, ?_⟩
    cases k with
    | zero => left; rfl
    | succ k =>
      right
      have hy : l.getD k 0 = l[k] := by simp [List.getD, List.getElem?_eq_getElem (show k < l.length by omega)]
      rw [show k + 1 - 1 = k by omega, hy]
      exact List.pairwise_iff_getElem.1 h1 k (k + 1) (by omega) hk (by omega)
def readyTo (h : House) (pk : List Int) (day : Int) (k : Nat) : List Int := ((List.range k).map fun i : Nat => (i : Int)).filter fun b => decide (b ∈ pk) && dOK h pk day b
theorem readyTo_succ (h : House) (pk : List Int) (day : Int) (k : Nat) : readyTo h pk day (k + 1) = readyTo h pk day k ++ if (decide ((k : Int) ∈ pk) && dOK h pk day k) = true then [(k : Int)] else [] := by
  unfold readyTo
  rw [List.range_succ, List.map_append, List.filter_append]
  congr 1
  cases hh : (decide ((k : Int) ∈ pk) && dOK h pk day k) <;> simp [hh]
theorem readyTo_len (h : House) (pk : List Int) (day : Int) (k : Nat) : (readyTo h pk day k).length ≤ k := by
  unfold readyTo
  refine Nat.le_trans (List.length_filter_le _ _) (by simp)
theorem inOf_nil {pk : List Int} {b : Int} : inOf pk b = [] ↔ b ∉ pk := by
  constructor
  · intro h hb
    obtain ⟨j, hj⟩ := List.getElem?_of_mem hb
    have : (j : Int) ∈ inOf pk b := mem_inTo.2 ⟨j, rfl, (List.getElem?_eq_some_iff.1 hj).1, by simp [barrelOf, List.getD, hj]⟩
    rw [h] at this; simp at this
  · intro h
    refine List.eq_nil_iff_forall_not_mem.2 fun i hi => ?_
    obtain ⟨j, -, hj, hb⟩ := mem_inTo.1 hi
    refine h ?_
    have := List.getElem?_eq_getElem hj
    rw [← hb]
    simp [barrelOf, List.getD, this]
theorem dOK_eq {f : Fair} (hf : FOK f) (day : Int) {b : Nat} (hb : b < f.h.bs.length) : dOK f.h f.pk day b = decide ((caskIn f.h (inOf f.pk b)).d ≤ day) := by
  have hbl := hf.bl
  have hp := goodB_parts hf.p
  unfold dOK
  rw [Int.toNat_natCast, caskOf_packed hp.1 (nb := f.h.bs.length) (hp.2.1.low (by omega)) (by omega) (by omega)]
set_option maxRecDepth 100000 in
set_option maxHeartbeats 4000000 in
theorem readyOf_any (F : FL) (f : Fair) (hn : FN f) (hf : FOK f) (w : World) (hF : FairAt w w.heap.size F f) : Calls Try.prog 95 #[F.enc f] w fun e w' => RowRet (rdF f) w.heap.size w' e ∧ Below w.heap.size w w' := by
  have hbw := al_below w (.cells #[.slice F.L.Ak f.h.ks.length F.L.ck, .int .i64 f.h.fl, .slice F.L.Ap f.h.ps.length F.L.cp, .slice F.L.Ab f.h.bs.length F.L.cb, .slice F.Ap f.pk.length F.cp, .int .i64 f.day, .int .i64 f.nb, .slice F.Aq f.q.length F.cq] 62)
  have HB := Lib.hid (FBox.new w F f)
  obtain ⟨c0, c1, c2, c3, c4, c5, c6, c7⟩ := (FBox.new w F f).cells
  obtain ⟨W0, hW0⟩ : ∃ W0, w.alloc (.cells #[.slice F.L.Ak f.h.ks.length F.L.ck, .int .i64 f.h.fl, .slice F.L.Ap f.h.ps.length F.L.cp, .slice F.L.Ab f.h.bs.length F.L.cb, .slice F.Ap f.pk.length F.cp, .int .i64 f.day, .int .i64 f.nb, .slice F.Aq f.q.length F.cq] 62) = W0 := ⟨_, rfl⟩
  rw [hW0] at hbw HB c0 c1 c2 c3 c4 c5 c6 c7
  have HBW := Lib.hid hbw
  have HW0 := Lib.hid hW0
  have HF := Lib.hid (hF.below hbw)
  clear hbw hW0 hF
  have HN := Lib.hid hn
  have HFO := Lib.hid hf
  have hbl := hf.bl
  have hpl : f.pk.length ≤ 6 := by have := (goodB_parts hf.p).1; have := (HOK.ofValid hf.h).pl; omega
  clear hn hf
  obtain ⟨L, Ap, cp, Aq, cq⟩ := F
  go_enter Try.func95, Try.ntmps95
  go_upto_region 1 with (fail)
  have e := HW0.out
  rw [e]
  clear e
  go_wp2_with (fail)
  go_loopw [3, 4] (fun s i wr => ∃ k : Nat, k ≤ f.h.bs.length ∧ i = .int .i64 k ∧ Hid (Ints wr W0.heap.size s (readyTo f.h f.pk f.day k)) ∧ Hid (Below W0.heap.size W0 wr)) (fun _ i _ => f.h.bs.length - (intOf i).toNat)
  case atStart => exact ⟨0, Nat.zero_le _, rfl, Lib.hid (ints_nil _ _), Lib.hid (Below.refl _ _)⟩
  case round =>
    obtain ⟨k, hk, rfl, hown, hb⟩ := hrel
    obtain ⟨g0, g1, g2, g3, g4, g5, g6, g7⟩ := (HB.out.of (hb.out.block _ HB.out.lt)).cells
    by_cases hlt : k < f.h.bs.length
    · have HT := Lib.hid (readyTo_succ f.h f.pk f.day k)
      have hlr := readyTo_len f.h f.pk f.day k
      have HFr := Lib.hid (HF.out.below hb.out)
      have H115 := Lib.hid (in_any f.pk (by omega) (k : Int) Ap cp wr HFr.out.p)
      have HDO := Lib.hid (dOK_eq HFO.out f.day hlt)
      have HIN := Lib.hid (inOf_nil (pk := f.pk) (b := (k : Int)))
      have hil : (inOf f.pk (k : Int)).length ≤ 6 := Nat.le_trans (inTo_len f.pk k f.pk.length) hpl
      have HPA := Lib.hid (show PartsOK f.h (inOf f.pk (k : Int)) from inTo_parts (by have := (goodB_parts HFO.out.p).1; omega))
      obtain ⟨ps, hps⟩ : ∃ ps, inOf f.pk (k : Int) = ps := ⟨_, rfl⟩
      rw [hps] at H115 HDO HIN hil HPA
      have H116 := Lib.hid (fun W A c hW (hI : IntsAt W W.heap.size A ps) => daysOf_any L f.h (HOK.ofValid HFO.out.h) ps (by omega) HPA.out A c W hW hI)
      clear hps
      go_upto_region 6 with (go_at_call 145; refine H115.out.mono ?_; rintro e w1 ⟨⟨v1, rfl, hv1⟩, hb1⟩; have B1 := Lib.hid (hb0to hb.out hb1); have B1r := Lib.hid hb1; obtain ⟨A1, c1, rfl, _, _, hI1⟩ := hv1.lay; have HI1 := Lib.hid hI1.at_; clear hb1 hv1 hI1)
      clear g0 g1 g2 g3 g4 g5 g6 g7
      obtain ⟨g0, g1, g2, g3, g4, g5, g6, g7⟩ := (HB.out.of (B1.out.block _ HB.out.lt)).cells
      have y0 := extB_cell g0
      have y1 := extB_cell g1
      have y2 := extB_cell g2
      have y3 := extB_cell g3
      have y5 := extB_cell g5
      by_cases he : ps = []
      · have hd : decide (0 < ps.length) = false := decide_eq_false (by rw [he]; simp)
        have hq : readyTo f.h f.pk f.day (k + 1) = readyTo f.h f.pk f.day k := by
          rw [HT.out, decide_eq_false (HIN.out.1 he)]; simp
        have HQ := Lib.hid hq
        clear hq he
        refine wp_region_ext (by kernel_rfl) (by kernel_rfl) ?_
        repeat (go_big_quiet_step (fail))
        refine wpQuiet_nil ?_
        rintro _ ⟨t1, rfl⟩
        clear y0 y1 y2 y3 y5 g0 g1 g2 g3 g4 g5 g6 g7
        have HB6 := Lib.hid (extB_below w1 t1)
        obtain ⟨W6, hW6⟩ : ∃ W6, extB w1 t1 = W6 := ⟨_, rfl⟩
        rw [hW6] at HB6 ⊢
        clear hW6
        go_wp2_with (fail)
        go_roundw
        case rel => exact ⟨k + 1, by omega, by go_num, Lib.hid (by rw [HQ.out]; exact (hown.out.below_ B1r.out (Nat.le_refl _)).below_ HB6.out (Nat.le_refl _)), Lib.hid (hb0to B1.out HB6.out)⟩
        case measure => simp [intOf]; omega
      · have hd : decide (0 < ps.length) = true := decide_eq_true (List.length_pos_iff.2 he)
        have HM : Hid ((k : Int) ∈ f.pk) := Lib.hid (Classical.not_not.1 (fun h => he (HIN.out.2 h)))
        have HF1 := Lib.hid (HF.out.below B1.out)
        have H116x := Lib.hid (fun z => H116.out (extB w1 z) A1 c1 (HF1.out.below (extB_below w1 z)).h (ints_later HI1.out (extB_below w1 z)))
        clear he
        generalize (caskIn f.h ps).d = dd at H116x HDO
        by_cases hdd : dd ≤ f.day
        · have hd2 : decide (dd ≤ f.day) = true := decide_eq_true hdd
          have HQ := Lib.hid (show readyTo f.h f.pk f.day (k + 1) = readyTo f.h f.pk f.day k ++ [(k : Int)] by rw [HT.out, decide_eq_true HM.out, HDO.out, hd2]; rfl)
          clear hdd
          refine wp_region_ext (by kernel_rfl) (by kernel_rfl) ?_
          repeat (go_big_quiet_step ((go_at_call 146; exact ext_call (H116x.out _))))
          refine wpQuiet_nil ?_
          rintro _ ⟨t1, rfl⟩
          clear y0 y1 y2 y3 y5 g0 g1 g2 g3 g4 g5 g6 g7
          have HB6 := Lib.hid (extB_below w1 t1)
          obtain ⟨W6, hW6⟩ : ∃ W6, extB w1 t1 = W6 := ⟨_, rfl⟩
          rw [hW6] at HB6 ⊢
          clear hW6
          have HOW := Lib.hid ((hown.out.below_ B1r.out (Nat.le_refl _)).below_ HB6.out (Nat.le_refl _))
          have hbz := hb0to B1.out HB6.out
          have hszw := hbz.size
          have HBZ := Lib.hid hbz
          clear hbz
          go_wp2_with (refine wpl_app (by rfl) _ _ (by rfl) W0.heap.size W0.heap.size _ (readyTo f.h f.pk f.day k) (k : Int) (by rfl) (HOW.out.alloc _) ⟨W6.heap.size, 0, none⟩ 1 (by rfl) (by simp [go_sem]) (by omega) (by simp; omega) (Nat.le_refl _) ?_; intro v7 w7 hown7 hb7; have H7 := Lib.hid hown7; have B7 := Lib.hid hb7; clear hown7 hb7)
          go_roundw
          case rel => exact ⟨k + 1, by omega, by go_num, Lib.hid (by rw [HQ.out]; exact H7.out), Lib.hid ((hb0to B1.out HB6.out).trans (((al_below W6 _).mono (hb0to B1.out HB6.out).size).trans B7.out))⟩
          case measure => simp [intOf]; omega
        · have hd2 : decide (dd ≤ f.day) = false := decide_eq_false hdd
          have HQ := Lib.hid (show readyTo f.h f.pk f.day (k + 1) = readyTo f.h f.pk f.day k by rw [HT.out, decide_eq_true HM.out, HDO.out, hd2]; simp)
          clear hdd
          refine wp_region_ext (by kernel_rfl) (by kernel_rfl) ?_
          repeat (go_big_quiet_step ((go_at_call 146; exact ext_call (H116x.out _))))
          refine wpQuiet_nil ?_
          rintro _ ⟨t1, rfl⟩
          clear y0 y1 y2 y3 y5 g0 g1 g2 g3 g4 g5 g6 g7
          have HB6 := Lib.hid (extB_below w1 t1)
          obtain ⟨W6, hW6⟩ : ∃ W6, extB w1 t1 = W6 := ⟨_, rfl⟩
          rw [hW6] at HB6 ⊢
          clear hW6
          go_wp2_with (fail)
          go_roundw
          case rel => exact ⟨k + 1, by omega, by go_num, Lib.hid (by rw [HQ.out]; exact (hown.out.below_ B1r.out (Nat.le_refl _)).below_ HB6.out (Nat.le_refl _)), Lib.hid (hb0to B1.out HB6.out)⟩
          case measure => simp [intOf]; omega
    · obtain rfl : k = f.h.bs.length := by omega
      go_wp2_with (fail)
      go_ret
      exact ⟨⟨_, rfl, hown.out.mono HBW.out.size⟩, hb0to HBW.out hb.out⟩
open Go.RowKit

/-! The specification's apart 117, isSale 93, IsSale 56, Brings 57. -/
abbrev bidE (x : Bid) (A : Option Addr) (c : Nat) : Value := .agg #[.int .i64 x.who, .slice A x.bar.length c, .int .i64 x.pay]
theorem apartB_no {x y : Bid} (h : x.who = y.who) : apartB x y = false := by unfold apartB; simp [h]
theorem apartB_in {x y : Bid} {n : Int} (h : n ∈ x.bar) (k : n ∈ y.bar) : apartB x y = false := by
  rw [← Bool.not_eq_true]
  exact fun e => (apart_iff.1 e).2 n h k
set_option maxRecDepth 100000 in
set_option maxHeartbeats 4000000 in
theorem apart_any (x y : Bid) (A B : Option Addr) (c d : Nat) (hx : x.bar.length ≤ 1000) (hy : y.bar.length ≤ 1000) (w : World) (hI : IntsAt w w.heap.size A x.bar) (hJ : IntsAt w w.heap.size B y.bar) :
    Calls Try.prog 144 #[bidE x A c, bidE y B d] w fun e w' => e = .returned (.bool (apartB x y)) ∧ Below w.heap.size w w' := by
  have h1 := heap_keep (o' := .cells #[.int .i64 y.who, .slice B y.bar.length d, .int .i64 y.pay] 68) (heap_new1 w (.cells #[.int .i64 x.who, .slice A x.bar.length c, .int .i64 x.pay] 68))
  have h2 := heap_new2 w (.cells #[.int .i64 x.who, .slice A x.bar.length c, .int .i64 x.pay] 68) (.cells #[.int .i64 y.who, .slice B y.bar.length d, .int .i64 y.pay] 68)
  have hb2 := hb0to (al_below w (.cells #[.int .i64 x.who, .slice A x.bar.length c, .int .i64 x.pay] 68)) (al_below _ (.cells #[.int .i64 y.who, .slice B y.bar.length d, .int .i64 y.pay] 68))
  obtain ⟨W2, hW2⟩ : ∃ W2, (w.alloc (.cells #[.int .i64 x.who, .slice A x.bar.length c, .int .i64 x.pay] 68)).alloc (.cells #[.int .i64 y.who, .slice B y.bar.length d, .int .i64 y.pay] 68) = W2 := ⟨_, rfl⟩
  rw [hW2] at h1 h2 hb2
  have H1 := Lib.hid h1
  have H2 := Lib.hid h2
  have HB2 := Lib.hid hb2
  have HW2 := Lib.hid hW2
  have HI := Lib.hid (ints_later hI hb2)
  have HJ := Lib.hid (ints_later hJ hb2)
  have a0 := cell_of_heap (o := 0) h1 rfl
  have a1 := cell_of_heap (o := 1) h1 rfl
  have b0 := cell_of_heap (o := 0) h2 rfl
  have b1 := cell_of_heap (o := 1) h2 rfl
  clear h1 h2 hb2 hW2 hI hJ
  by_cases hw : x.who = y.who
  · have hd : (x.who == y.who) = true := by simp [hw]
    have HQ := Lib.hid (apartB_no hw)
    clear hw
    go_enter Try.func144, Try.ntmps144
    go_upto_region 1 with (fail)
    have e := HW2.out
    rw [e]
    clear e
    go_wp2_with (fail)
    go_ret
    exact ⟨by rw [HQ.out]; rfl, HB2.out⟩
  · have hd : (x.who == y.who) = false := by simp [hw]
    have HWH := Lib.hid hw
    clear hw
    go_enter Try.func144, Try.ntmps144
    go_upto_region 1 with (fail)
    have e := HW2.out
    rw [e]
    clear e
    go_wp2_with (fail)
    clear a0 a1 b0 b1
    go_loopw [5] (fun i wr => ∃ k : Nat, k ≤ x.bar.length ∧ i = .int .i64 k ∧ Hid (∀ j n, j < k → x.bar[j]? = some n → n ∉ y.bar) ∧ Hid (Below W2.heap.size W2 wr)) (fun i _ => x.bar.length - (intOf i).toNat)
    case atStart => exact ⟨0, Nat.zero_le _, rfl, Lib.hid (fun j n hj => by omega), Lib.hid (Below.refl _ _)⟩
    case round =>
      obtain ⟨k, hk, rfl, hno, hb⟩ := hrel
      have a1 := below_cell hb.out (cell_of_heap (o := 1) H1.out rfl)
      have b1 := below_cell hb.out (cell_of_heap (o := 1) H2.out rfl)
      by_cases hlt : k < x.bar.length
      · obtain ⟨n, hn⟩ : ∃ n, x.bar[k]? = some n := ⟨_, List.getElem?_eq_getElem hlt⟩
        obtain ⟨b', o', eA, b1lt, d1⟩ := HI.out.at_ hn
        have d2 := below_cell hb.out d1
        subst eA
        have ya := extB_cell a1
        have yb := extB_cell b1
        have yd := extB_cell d2
        have H24 := Lib.hid (fun z => rIn_any y.bar hy n B d (extB wr z) (ints_later (ints_later HJ.out hb.out) (extB_below wr z)))
        have HN := Lib.hid hn
        clear hn d1
        cases hin : decide (n ∈ y.bar)
        · rw [hin] at H24
          have HNI := Lib.hid (of_decide_eq_false hin)
          clear hin
          go_upto_region 6 with (fail)
          refine wp_region_ext (by kernel_rfl) (by kernel_rfl) ?_
          repeat (go_big_quiet_step ((go_at_call 77; exact ext_call (H24.out _))))
          refine wpQuiet_nil ?_
          rintro _ ⟨t1, rfl⟩
          clear ya yb yd a1 b1 d2
          have HB6 := Lib.hid (extB_below wr t1)
          obtain ⟨W6, hW6⟩ : ∃ W6, extB wr t1 = W6 := ⟨_, rfl⟩
          rw [hW6] at HB6 ⊢
          clear hW6
          go_wp2_with (fail)
          go_roundw
          case rel => exact ⟨k + 1, by omega, by go_num, Lib.hid (fun j m hj hm => by
            by_cases e : j = k
            · subst e; have := HN.out.symm.trans hm; cases this; exact HNI.out
            · exact hno.out j m (by omega) hm), Lib.hid (hb0to hb.out HB6.out)⟩
          case measure => simp [intOf]; omega
        · rw [hin] at H24
          have HQ := Lib.hid (apartB_in (List.mem_of_getElem? HN.out) (of_decide_eq_true hin))
          clear hin
          go_upto_region 6 with (fail)
          refine wp_region_ext (by kernel_rfl) (by kernel_rfl) ?_
          repeat (go_big_quiet_step ((go_at_call 77; exact ext_call (H24.out _))))
          refine wpQuiet_nil ?_
          rintro _ ⟨t1, rfl⟩
          clear ya yb yd a1 b1 d2
          have HB6 := Lib.hid (extB_below wr t1)
          obtain ⟨W6, hW6⟩ : ∃ W6, extB wr t1 = W6 := ⟨_, rfl⟩
          rw [hW6] at HB6 ⊢
          clear hW6
          go_wp2_with (fail)
          go_ret
          exact ⟨by rw [HQ.out]; rfl, hb0to HB2.out (hb0to hb.out HB6.out)⟩
      · obtain rfl : k = x.bar.length := by omega
        have HQ := Lib.hid (show apartB x y = true from apart_iff.2 ⟨HWH.out, fun n hn => by
          obtain ⟨j, hj⟩ := List.getElem?_of_mem hn
          exact hno.out j n (List.getElem?_eq_some_iff.1 hj).1 hj⟩)
        go_wp2_with (fail)
        go_ret
        exact ⟨by rw [HQ.out]; rfl, hb0to HB2.out hb.out⟩
end Go.Proofs.Ytmbcpmnigggbaaa
namespace Go.Proofs.Ytmbcpmnigggbaaa
open Go.RowKit

/-! Good 50. -/
theorem bits_or : ∀ N, N ≤ 8 → ∀ j, j < N → ∀ m, m < 2 ^ j → bitsL N (m ||| 2 ^ j) = bitsL N m ++ [j] ∧ m ||| 2 ^ j < 2 ^ (j + 1) := by decide +kernel
def BoolEnd (r : Bool × Int) (e : Ending) : Prop := e = .returned (.tuple #[.bool r.1, .int .i64 r.2])
theorem BoolEnd.mk {r : Bool × Int} {x : Bool} {y : Int} (h : r = (x, y)) : BoolEnd r (.returned (.tuple #[.bool x, .int .i64 y])) := by unfold BoolEnd; rw [h]
/-- What Good knows of the first numbers of a list: their bits. -/
structure GoodTo (q : List Bid) (l : List Int) (k m b : Nat) : Prop where
  lt : m < 2 ^ b
  le : b ≤ q.length
  bits : bitsL q.length m = (l.take k).map Int.toNat
  last : 0 < k → (b : Int) = l.getD (k - 1) 0 + 1
  zero : k = 0 → b = 0
theorem GoodTo.next {q : List Bid} {l : List Int} {k m b n : Nat} (h : GoodTo q l k m b) (hq : q.length ≤ 8) (hx : l[k]? = some (n : Int)) (hn : n < q.length) (hb : b ≤ n) : GoodTo q l (k + 1) (m ||| 2 ^ n) (n + 1) := by
  obtain ⟨h1, h2⟩ := bits_or q.length hq n hn m (Nat.lt_of_lt_of_le h.lt (Nat.pow_le_pow_right (by omega) hb))
  refine ⟨h2, hn, ?_, fun _ => ?_, fun h => by omega⟩
  · rw [h1, h.bits, (take_snoc_next hx).symm, List.map_append]; simp
  · rw [Nat.add_sub_cancel, List.getD, hx]; simp
end Go.Proofs.Ytmbcpmnigggbaaa
namespace Go.Proofs.Ytmbcpmnigggbaaa
open Go.RowKit

/-! The specification's isSale 93, IsSale 56, Good 51. -/
/-- A list of numbers is a sale. -/
def isSaleB (q : List Bid) (rd : List Int) (l : List Int) : Bool := riseB l q.length && saleB q rd (l.map Int.toNat)
theorem saleI_no {q : List Bid} {rd : List Int} {l : List Int} {k : Nat} {n : Int} (hk : l[k]? = some n) (h : ¬ SaleL q rd ((l.take k).map Int.toNat ++ [n.toNat])) : isSaleB q rd l = false := by
  unfold isSaleB
  rw [saleB_no (fun hs => h ?_), Bool.and_false]
  have e : l = (l.take k ++ [n]) ++ l.drop (k + 1) := by
    obtain ⟨h1, h2⟩ := List.getElem?_eq_some_iff.1 hk
    rw [List.append_assoc, ← h2, List.singleton_append, ← List.drop_eq_getElem_cons h1, List.take_append_drop]
  rw [e, List.map_append, List.map_append] at hs
  exact sale_pre hs
theorem rise_before {l : List Int} {n : Int} (h : riseB l n = true) {k : Nat} {x : Int} (hk : l[k]? = some x) : ∀ j ∈ (l.take k).map Int.toNat, j < x.toNat := fun j hj => by
  obtain ⟨y, hy, rfl⟩ := List.mem_map.1 hj
  obtain ⟨h1, h2⟩ := rise_iff.1 h
  obtain ⟨t, ht, e⟩ := List.mem_take_iff_getElem.1 hy
  obtain ⟨k1, k2⟩ := List.getElem?_eq_some_iff.1 hk
  have := List.pairwise_iff_getElem.1 h1 t k (by omega) k1 (by omega)
  rw [e, k2] at this
  have h3 := h2 y (by rw [← e]; exact List.getElem_mem _)
  omega
set_option maxRecDepth 100000 in
set_option maxHeartbeats 4000000 in
theorem isSale_any (F : FL) (f : Fair) (hn : FN f) (hf : FOK f) (rd : List Int) (hr : rd.length ≤ 1000) (l : List Int) (hl : l.length ≤ 1000) (A : Option Addr) (c : Nat) (R : Option Addr) (d : Nat) (w : World) (hF : FairAt w w.heap.size F f) (hI : IntsAt w w.heap.size A l) (hR : IntsAt w w.heap.size R rd) :
    Calls Try.prog 94 #[F.enc f, .slice A l.length c, .slice R rd.length d] w fun e w' => e = .returned (.bool (isSaleB f.q rd l)) ∧ Below w.heap.size w w' := by
  have hbw := al_below w (.cells #[.slice F.L.Ak f.h.ks.length F.L.ck, .int .i64 f.h.fl, .slice F.L.Ap f.h.ps.length F.L.cp, .slice F.L.Ab f.h.bs.length F.L.cb, .slice F.Ap f.pk.length F.cp, .int .i64 f.day, .int .i64 f.nb, .slice F.Aq f.q.length F.cq] 62)
  have HB := Lib.hid (FBox.new w F f)
  obtain ⟨c0, c1, c2, c3, c4, c5, c6, c7⟩ := (FBox.new w F f).cells
  obtain ⟨W0, hW0⟩ : ∃ W0, w.alloc (.cells #[.slice F.L.Ak f.h.ks.length F.L.ck, .int .i64 f.h.fl, .slice F.L.Ap f.h.ps.length F.L.cp, .slice F.L.Ab f.h.bs.length F.L.cb, .slice F.Ap f.pk.length F.cp, .int .i64 f.day, .int .i64 f.nb, .slice F.Aq f.q.length F.cq] 62) = W0 := ⟨_, rfl⟩
  rw [hW0] at hbw HB c0 c1 c2 c3 c4 c5 c6 c7
  have HBW := Lib.hid hbw
  have HW0 := Lib.hid hW0
  have HF := Lib.hid (hF.below hbw)
  clear hbw hW0 hF
  have HI := Lib.hid (ints_later hI HBW.out)
  have HR := Lib.hid (ints_later hR HBW.out)
  have HN := Lib.hid hn
  have HFO := Lib.hid hf
  have hql := hf.ql
  have H89 := Lib.hid (rising_any l hl f.q.length A c W0 HI.out)
  clear hI hR hn hf c0 c1 c2 c3 c4 c5 c6
  obtain ⟨L, Ap, cp, Aq, cq⟩ := F
  cases hrise : riseB l f.q.length
  · have HQ := Lib.hid (show isSaleB f.q rd l = false by unfold isSaleB; rw [hrise]; rfl)
    rw [hrise] at H89
    clear hrise
    go_enter Try.func94, Try.ntmps94
    go_upto_region 1 with (fail)
    have e := HW0.out
    rw [e]
    clear e
    go_wp2_with (go_at_call 88; refine H89.out.mono ?_; rintro e w1 ⟨rfl, hb1⟩; have B1 := Lib.hid hb1; clear hb1)
    go_ret
    exact ⟨by rw [HQ.out]; rfl, hb0to HBW.out B1.out⟩
  · rw [hrise] at H89
    have HRI := Lib.hid hrise
    have HPW := Lib.hid (rise_iff.1 hrise)
    clear hrise
    go_enter Try.func94, Try.ntmps94
    go_upto_region 1 with (fail)
    have e := HW0.out
    rw [e]
    clear e
    go_wp2_with (go_at_call 88; refine H89.out.mono ?_; rintro e w1 ⟨rfl, hb1⟩; have B1 := Lib.hid hb1; clear hb1)
    clear c7
    go_loopw [7] (fun i wr => ∃ k : Nat, k ≤ l.length ∧ i = .int .i64 k ∧ Hid (SaleL f.q rd ((l.take k).map Int.toNat)) ∧ Hid (Below W0.heap.size W0 wr)) (fun i _ => l.length - (intOf i).toNat)
    case atStart => exact ⟨0, Nat.zero_le _, rfl, Lib.hid (SaleL.nil _ _), B1⟩
    case round =>
      obtain ⟨k, hk, rfl, hsl, hb⟩ := hrel
      obtain ⟨g0, g1, g2, g3, g4, g5, g6, g7⟩ := (HB.out.of (hb.out.block _ HB.out.lt)).cells
      by_cases hlt : k < l.length
      · obtain ⟨y, hy⟩ : ∃ y, l[k]? = some y := ⟨_, List.getElem?_eq_getElem hlt⟩
        have hyr := HPW.out.2 y (List.mem_of_getElem? hy)
        obtain ⟨n, rfl⟩ := Int.eq_ofNat_of_zero_le hyr.1
        have hnq : n < f.q.length := by omega
        obtain ⟨x, hx⟩ : ∃ x, f.q[n]? = some x := ⟨_, List.getElem?_eq_getElem hnq⟩
        have hxb := HN.out.b x (List.mem_of_getElem? hx)
        obtain ⟨b1, o1, eI, b1lt, d1⟩ := HI.out.at_ hy
        obtain ⟨bk, ok, A', c', eA, hbk, x1, x2, x3, hA', hXI⟩ := HF.out.q.at_ hx
        have e0 := below_cell hb.out d1
        have e1 := below_cell hb.out x1
        have e2 := below_cell hb.out x2
        have e3 := below_cell hb.out x3
        rw [show Aq = _ from eA] at g7
        have HEA := Lib.hid eA
        subst eI
        have hbn := HB.out.of (hb.out.block _ HB.out.lt)
        have w1n := World.new_ne wr _ g7
        have w2n := World.new_ne wr _ e0
        have w3n := World.new_ne wr _ e1
        have w4n := World.new_ne wr _ e2
        have w5n := World.new_ne wr _ e3
        have HX := Lib.hid hx
        have HY := Lib.hid hy
        have HXI := Lib.hid hXI
        have HSN := Lib.hid (sale_snoc hsl.out (rise_before HRI.out hy) (show f.q[((n : Int)).toNat]? = some x by rw [Int.toNat_natCast]; exact hx))
        have HT := Lib.hid (show (l.take (k + 1)).map Int.toNat = (l.take k).map Int.toNat ++ [(n : Int).toNat] by rw [show l.take (k + 1) = l.take k ++ [(n : Int)] from (take_snoc_next hy).symm, List.map_append]; rfl)
        clear hx hy hXI hA' d1 x1 x2 x3 eA hbn
        go_upto_region 6 with (fail)
        go_region_held3 (fun w' => w'.cell? ⟨w.heap.size, 7, none⟩ = some (.slice (some ⟨bk, ok, none⟩) f.q.length cq) ∧ w'.cell? ⟨b1, o1 + k, none⟩ = some (.int .i64 (n : Int)) ∧ w'.cell? ⟨bk, ok + n * 3, none⟩ = some (.int .i64 x.who) ∧ w'.cell? ⟨bk, ok + n * 3 + 1, none⟩ = some (.slice A' x.bar.length c') ∧ w'.cell? ⟨bk, ok + n * 3 + 2, none⟩ = some (.int .i64 x.pay)) (first | go_keep) (fail)
        clear w1n w2n w3n w4n w5n e0 e1 e2 e3 g0 g1 g2 g3 g4 g5 g6 g7
        have hb5 : Below W0.heap.size W0 (wr.alloc (.cells #[.int .i64 x.who, .slice A' x.bar.length c', .int .i64 x.pay] 68)).drew := (hb0to hb.out (al_below wr _)).drew
        have hbx : (wr.alloc (.cells #[.int .i64 x.who, .slice A' x.bar.length c', .int .i64 x.pay] 68)).drew.heap[wr.heap.size]? = some (.cells #[.int .i64 x.who, .slice A' x.bar.length c', .int .i64 x.pay] 68 (0, 0)) := heap_new1 _ _
        obtain ⟨W5, hW5⟩ : ∃ W5, (wr.alloc (.cells #[.int .i64 x.who, .slice A' x.bar.length c', .int .i64 x.pay] 68)).drew = W5 := ⟨_, rfl⟩
        rw [hW5] at hb5 hbx ⊢
        obtain ⟨wv, hwv⟩ : ∃ v, v = wr.heap.size := ⟨_, rfl⟩
        rw [← hwv] at hbx ⊢
        have HB5 := Lib.hid hb5
        have HBX := Lib.hid hbx
        have z1 := cell_of_heap (o := 1) hbx rfl
        clear hW5 hb5 hbx hb hwv
        go_wp2_with (fail)
        clear z1
        go_loopw [9] (fun i wr => ∃ j : Nat, j ≤ x.bar.length ∧ i = .int .i64 j ∧ Hid (∀ m y, m < j → x.bar[m]? = some y → y ∈ rd) ∧ Hid (Below W5.heap.size W5 wr)) (fun i _ => x.bar.length - (intOf i).toNat)
        case atStart => exact ⟨0, Nat.zero_le _, rfl, Lib.hid (fun m y hm => by omega), Lib.hid (Below.refl _ _)⟩
        case round =>
          obtain ⟨j, hj, rfl, hall, hb2⟩ := hrel
          have z1 := below_cell hb2.out (cell_of_heap (o := 1) HBX.out rfl)
          by_cases hjl : j < x.bar.length
          · obtain ⟨y, hy⟩ : ∃ y, x.bar[j]? = some y := ⟨_, List.getElem?_eq_getElem hjl⟩
            obtain ⟨b2, o2, eB, b2lt, t1⟩ := HXI.out.at_ hy
            have t2 := below_cell (hb0to HB5.out hb2.out) t1
            subst eB
            have H24 := Lib.hid (rIn_any rd hr y R d wr (ints_later HR.out (hb0to HB5.out hb2.out)))
            have HYY := Lib.hid hy
            clear hy t1
            cases hin : decide (y ∈ rd)
            · rw [hin] at H24
              have HQ := Lib.hid (saleI_no (q := f.q) (rd := rd) HY.out (fun hs => by
                have := ready_iff.1 (HSN.out.1 hs).1 y (List.mem_of_getElem? HYY.out)
                rw [decide_eq_true this] at hin; cases hin))
              clear hin
              go_wp2_with (go_at_call 77; refine H24.out.mono ?_; rintro e w6 ⟨rfl, hb6⟩; have B6 := Lib.hid hb6; clear hb6)
              go_ret
              exact ⟨by rw [HQ.out]; rfl, hb0to HBW.out (hb0to HB5.out (hb0to hb2.out B6.out))⟩
            · rw [hin] at H24
              have HYI := Lib.hid (of_decide_eq_true hin)
              clear hin
              go_wp2_with (go_at_call 77; refine H24.out.mono ?_; rintro e w6 ⟨rfl, hb6⟩; have B6 := Lib.hid hb6; clear hb6)
              go_roundw
              case rel => exact ⟨j + 1, by omega, by go_num, Lib.hid (fun m z hm hz => by
                by_cases e : m = j
                · subst e; have := HYY.out.symm.trans hz; cases this; exact HYI.out
                · exact hall.out m z (by omega) hz), Lib.hid (hb0to hb2.out B6.out)⟩
              case measure => simp [intOf]; omega
          · obtain rfl : j = x.bar.length := by omega
            have HRD := Lib.hid (show readyB rd x = true from ready_iff.2 fun y hy => by
              obtain ⟨m, hm⟩ := List.getElem?_of_mem hy
              exact hall.out m y (List.getElem?_eq_some_iff.1 hm).1 hm)
            go_wp2_with (fail)
            obtain ⟨wp, hwp⟩ : ∃ x : World, x = wr := ⟨_, rfl⟩
            have HBP := Lib.hid (hb0to HB5.out hb2.out)
            have HBX2 := Lib.hid ((hb2.out.block _ (heap_lt HBX.out)).trans HBX.out)
            rw [← hwp] at HBP HBX2 ⊢
            clear hall hb2 z1 hwp
            go_loopw [10] (fun i wr => ∃ j : Nat, j ≤ k ∧ i = .int .i64 j ∧ Hid (∀ m, m ∈ (l.take j).map Int.toNat → ∀ a, f.q[m]? = some a → apartB a x = true) ∧ Hid (Below wp.heap.size wp wr)) (fun i _ => k - (intOf i).toNat)
            case atStart => exact ⟨0, Nat.zero_le _, rfl, Lib.hid (fun m hm => by simp at hm), Lib.hid (Below.refl _ _)⟩
            case round =>
              obtain ⟨j, hj, rfl, hall, hb3⟩ := hrel
              by_cases hjk : j < k
              · obtain ⟨y, hy⟩ : ∃ y, l[j]? = some y := ⟨_, List.getElem?_eq_getElem (by omega)⟩
                have hyr := HPW.out.2 y (List.mem_of_getElem? hy)
                obtain ⟨m, rfl⟩ := Int.eq_ofNat_of_zero_le hyr.1
                have hmq : m < f.q.length := by omega
                obtain ⟨a, ha⟩ : ∃ a, f.q[m]? = some a := ⟨_, List.getElem?_eq_getElem hmq⟩
                have hab := HN.out.b a (List.mem_of_getElem? ha)
                have hball := hb0to HBP.out hb3.out
                obtain ⟨b2, o2, eI2, b2lt, t1⟩ := HI.out.at_ hy
                obtain ⟨bk2, ok2, A2, c2, eA2, hbk2, x1, x2, x3, hA2, hAI⟩ := HF.out.q.at_ ha
                cases eI2
                have e4 := HEA.out.symm.trans eA2
                cases e4
                obtain ⟨g0, g1, g2, g3, g4, g5, g6, g7⟩ := (HB.out.of (hball.block _ HB.out.lt)).cells
                rw [show Aq = _ from HEA.out] at g7
                have y7 := extB_cell g7
                have y0 := extB_cell (below_cell hball t1)
                have y1 := extB_cell (below_cell hball x1)
                have y2 := extB_cell (below_cell hball x2)
                have y3 := extB_cell (below_cell hball x3)
                have hbx3 := (hb3.out.block _ (heap_lt HBX2.out)).trans HBX2.out
                have y4 := extB_cell (cell_of_heap (o := 0) hbx3 rfl)
                have y5 := extB_cell (cell_of_heap (o := 1) hbx3 rfl)
                have y6 := extB_cell (cell_of_heap (o := 2) hbx3 rfl)
                have H117 := Lib.hid (fun z => apart_any a x A2 A' c2 c' hab hxb (extB wr z) (ints_later (ints_later hAI hball) (extB_below wr z)) (ints_later (ints_later HXI.out hball) (extB_below wr z)))
                have HT2 := Lib.hid (show (l.take (j + 1)).map Int.toNat = (l.take j).map Int.toNat ++ [m] by rw [show l.take (j + 1) = l.take j ++ [(m : Int)] from (take_snoc_next hy).symm, List.map_append]; simp)
                have HMJ := Lib.hid (show m ∈ (l.take k).map Int.toNat from List.mem_map.2 ⟨(m : Int), List.mem_take_iff_getElem.2 ⟨j, by rw [Nat.min_eq_left (by omega)]; exact hjk, (List.getElem?_eq_some_iff.1 hy).2⟩, Int.toNat_natCast m⟩)
                have HAA := Lib.hid ha
                clear hy ha hA2 hAI t1 x1 x2 x3 hbx3 g0 g1 g2 g3 g4 g5 g6 g7
                cases hap : apartB a x
                · rw [hap] at H117
                  have HQ := Lib.hid (saleI_no (q := f.q) (rd := rd) HY.out (fun hs => by
                    have := (HSN.out.1 hs).2 m HMJ.out a HAA.out
                    rw [hap] at this; cases this))
                  clear hap hball
                  go_upto_region 15 with (fail)
                  refine wp_region_ext (by kernel_rfl) (by kernel_rfl) ?_
                  repeat (go_big_quiet_step ((go_at_call 144; exact ext_call (H117.out _))))
                  refine wpQuiet_nil ?_
                  rintro _ ⟨t1, rfl⟩
                  clear y0 y1 y2 y3 y4 y5 y6 y7
                  have HB6 := Lib.hid (extB_below wr t1)
                  obtain ⟨W6, hW6⟩ : ∃ W6, extB wr t1 = W6 := ⟨_, rfl⟩
                  rw [hW6] at HB6 ⊢
                  clear hW6
                  go_wp2_with (fail)
                  go_ret
                  exact ⟨by rw [HQ.out]; rfl, hb0to HBW.out (hb0to HBP.out (hb0to hb3.out HB6.out))⟩
                · rw [hap] at H117
                  have HAP := Lib.hid hap
                  clear hap hball
                  go_upto_region 15 with (fail)
                  refine wp_region_ext (by kernel_rfl) (by kernel_rfl) ?_
                  repeat (go_big_quiet_step ((go_at_call 144; exact ext_call (H117.out _))))
                  refine wpQuiet_nil ?_
                  rintro _ ⟨t1, rfl⟩
                  clear y0 y1 y2 y3 y4 y5 y6 y7
                  have HB6 := Lib.hid (extB_below wr t1)
                  obtain ⟨W6, hW6⟩ : ∃ W6, extB wr t1 = W6 := ⟨_, rfl⟩
                  rw [hW6] at HB6 ⊢
                  clear hW6
                  go_wp2_with (fail)
                  go_roundw
                  case rel => exact ⟨j + 1, by omega, by go_num, Lib.hid (fun p hp c hc => by
                    rw [HT2.out, List.mem_append, List.mem_singleton] at hp
                    rcases hp with hp | rfl
                    · exact hall.out p hp c hc
                    · have := HAA.out.symm.trans hc; cases this; exact HAP.out), Lib.hid (hb0to hb3.out HB6.out)⟩
                  case measure => simp [intOf]; omega
              · obtain rfl : j = k := by omega
                have HNX := Lib.hid (HSN.out.2 ⟨HRD.out, hall.out⟩)
                go_wp2_with (fail)
                go_roundw
                case rel => exact ⟨j + 1, by omega, by go_num, Lib.hid (by rw [HT.out]; exact HNX.out), Lib.hid (hb0to HBP.out hb3.out)⟩
                case measure => simp [intOf]; omega
      · obtain rfl : k = l.length := by omega
        have hs2 := hsl.out
        rw [List.take_length] at hs2
        have HQ := Lib.hid (show isSaleB f.q rd l = true by unfold isSaleB; rw [HRI.out, saleB_iff.2 hs2]; rfl)
        go_wp2_with (fail)
        go_ret
        exact ⟨by rw [HQ.out]; rfl, hb0to HBW.out hb.out⟩

open Go.RowKit

/-! The specification's IsSale 56, Good 51. -/
theorem rd_len {f : Fair} : (rdF f).length ≤ f.h.bs.length := readyTo_len f.h f.pk f.day f.h.bs.length
set_option maxRecDepth 100000 in
set_option maxHeartbeats 4000000 in
theorem rIsSale_any (F : FL) (f : Fair) (hn : FN f) (hf : FOK f) (l : List Int) (hl : l.length ≤ 1000) (A : Option Addr) (c : Nat) (w : World) (hF : FairAt w w.heap.size F f) (hI : IntsAt w w.heap.size A l) :
    Calls Try.prog 35 #[F.enc f, .slice A l.length c] w fun e w' => e = .returned (.bool (isSaleB f.q (rdF f) l)) ∧ Below w.heap.size w w' := by
  have hbw := al_below w (.cells #[.slice F.L.Ak f.h.ks.length F.L.ck, .int .i64 f.h.fl, .slice F.L.Ap f.h.ps.length F.L.cp, .slice F.L.Ab f.h.bs.length F.L.cb, .slice F.Ap f.pk.length F.cp, .int .i64 f.day, .int .i64 f.nb, .slice F.Aq f.q.length F.cq] 62)
  have HB := Lib.hid (FBox.new w F f)
  obtain ⟨c0, c1, c2, c3, c4, c5, c6, c7⟩ := (FBox.new w F f).cells
  obtain ⟨W0, hW0⟩ : ∃ W0, w.alloc (.cells #[.slice F.L.Ak f.h.ks.length F.L.ck, .int .i64 f.h.fl, .slice F.L.Ap f.h.ps.length F.L.cp, .slice F.L.Ab f.h.bs.length F.L.cb, .slice F.Ap f.pk.length F.cp, .int .i64 f.day, .int .i64 f.nb, .slice F.Aq f.q.length F.cq] 62) = W0 := ⟨_, rfl⟩
  rw [hW0] at hbw HB c0 c1 c2 c3 c4 c5 c6 c7
  have HBW := Lib.hid hbw
  have HW0 := Lib.hid hW0
  have HF := Lib.hid (hF.below hbw)
  clear hbw hW0 hF
  have HI := Lib.hid (ints_later hI HBW.out)
  have H90 := Lib.hid (fun W hW => readyOf_any F f hn hf W hW)
  have hrl : (rdF f).length ≤ 1000 := Nat.le_trans rd_len hn.h.2.2
  have H93 := Lib.hid (fun W R d hW hI hR => isSale_any F f hn hf (rdF f) hrl l hl A c R d W hW hI hR)
  clear hI hn hf
  obtain ⟨L, Ap, cp, Aq, cq⟩ := F
  go_enter Try.func35, Try.ntmps35
  go_upto_region 1 with (fail)
  have e := HW0.out
  rw [e]
  clear e
  go_region_held3 (fun w' => w'.cell? ⟨w.heap.size, 0, none⟩ = some (.slice L.Ak f.h.ks.length L.ck) ∧ w'.cell? ⟨w.heap.size, 1, none⟩ = some (.int .i64 f.h.fl) ∧ w'.cell? ⟨w.heap.size, 2, none⟩ = some (.slice L.Ap f.h.ps.length L.cp) ∧ w'.cell? ⟨w.heap.size, 3, none⟩ = some (.slice L.Ab f.h.bs.length L.cb) ∧ w'.cell? ⟨w.heap.size, 4, none⟩ = some (.slice Ap f.pk.length cp) ∧ w'.cell? ⟨w.heap.size, 5, none⟩ = some (.int .i64 f.day) ∧ w'.cell? ⟨w.heap.size, 6, none⟩ = some (.int .i64 f.nb) ∧ w'.cell? ⟨w.heap.size, 7, none⟩ = some (.slice Aq f.q.length cq)) (first | go_keep)
    (first
      | (go_at_call 95; refine (H90.out _ (HF.out.below (by first | exact Below.refl _ _ | exact drew_below W0))).mono ?_; rintro e w1 ⟨⟨v1, rfl, hv1⟩, hb1⟩; have hk1 : Below W0.heap.size W0 w1 := (by first | exact hb1 | exact hb0to (drew_below W0) hb1); have B1 := Lib.hid hk1; obtain ⟨A1, c1, rfl, _, _, hI1⟩ := hv1.lay; have HI1 := Lib.hid hI1.at_; obtain ⟨r0, r1, r2, r3, r4, r5, r6, r7⟩ := (HB.out.of (hk1.block _ HB.out.lt)).cells; clear hb1 hk1 hv1 hI1)
      | (go_at_call 94; refine (H93.out w1 A1 c1 (HF.out.below B1.out) (ints_later HI.out B1.out) HI1.out).mono ?_; rintro e w2 ⟨rfl, hb2⟩; have B2 := Lib.hid (hb0to B1.out hb2); obtain ⟨r0, r1, r2, r3, r4, r5, r6, r7⟩ := (HB.out.of (B2.out.block _ HB.out.lt)).cells; clear hb2))
  all_goals
    go_wp2_with (fail)
    go_ret
    exact ⟨rfl, hb0to HBW.out B2.out⟩
end Go.Proofs.Ytmbcpmnigggbaaa
namespace Go.Proofs.Ytmbcpmnigggbaaa
open Go.RowKit

open Go.RowKit

/-- All sales, in order. -/
structure SalesL (q : List Bid) (rd : List Int) (S : List (List Nat)) : Prop where
  up : S.Pairwise aheadP
  mem : ∀ l, l ∈ S ↔ SaleL q rd l
  len : S.length ≤ 100000
theorem SalesL.first {q : List Bid} {rd : List Int} {S : List (List Nat)} (h : SalesL q rd S) : S[0]? = some [] := by
  obtain ⟨j, hj⟩ := List.getElem?_of_mem ((h.mem []).2 (SaleL.nil q rd))
  obtain ⟨k1, k2⟩ := List.getElem?_eq_some_iff.1 hj
  rcases Nat.eq_zero_or_pos j with e | e
  · subst e; exact hj
  · exfalso
    have := List.pairwise_iff_getElem.1 h.up 0 j (by omega) k1 e
    rw [k2] at this
    rcases this with h1 | ⟨h1, h2⟩
    · simp at h1
    · have h3 := List.length_eq_zero_iff.1 h1
      rw [h3] at h2; simp [earlierN] at h2
open Go.RowKit

/-! The specification's WinnersOf 81, MostOf 79, Most 41, Winners 43, Known 108, wonOf 83, Won 44. -/
def IntsRet (l : List Int) (lo : Nat) (w' : World) (e : Ending) : Prop := ∃ A c, e = .returned (.slice A l.length c) ∧ (A = none → c = 0 ∧ l = []) ∧ IntsIn w' lo w'.heap.size A l
theorem IntsRet.of {l : List Int} {lo : Nat} {w' : World} {e : Ending} {v : Value} (he : e = .returned v) (h : Ints w' lo v l) : IntsRet l lo w' e := by
  obtain ⟨A, c, h1, h2, _, h3⟩ := h.lay
  exact ⟨A, c, by rw [he, h1], h2, h3⟩
end Go.Proofs.Ytmbcpmnigggbaaa
