import Derived.Test.YtmconopnplgcfaaRC
namespace Go.Proofs.Ytmconopnplgcfaa
open Go.RowKit

/-! The specification's apart 117, isSale 93, IsSale 56, Brings 57. -/
abbrev bidE (x : Bid) (A : Option Addr) (c : Nat) : Value := .agg #[.int .i64 x.who, .slice A x.bar.length c, .int .i64 x.pay]
theorem apartB_no {x y : Bid} (h : x.who = y.who) : apartB x y = false := by unfold apartB; simp [h]
theorem apartB_in {x y : Bid} {n : Int} (h : n ∈ x.bar) (k : n ∈ y.bar) : apartB x y = false := by
  rw [← Bool.not_eq_true]
  exact fun e => (apart_iff.1 e).2 n h k
set_option maxRecDepth 100000 in
set_option maxHeartbeats 4000000 in
theorem apart_any (x y : Bid) (A B : Option Addr) (c d : Nat) (hx : x.bar.length ≤ 1000) (hy : y.bar.length ≤ 1000) (w : World) (hI : IntsAt w w.heap.size A x.bar) (hJ : IntsAt w w.heap.size B y.bar) :
    Calls Try.prog 117 #[bidE x A c, bidE y B d] w fun e w' => e = .returned (.bool (apartB x y)) ∧ Below w.heap.size w w' := by
  have h1 := heap_keep (o' := .cells #[.int .i64 y.who, .slice B y.bar.length d, .int .i64 y.pay] 38) (heap_new1 w (.cells #[.int .i64 x.who, .slice A x.bar.length c, .int .i64 x.pay] 38))
  have h2 := heap_new2 w (.cells #[.int .i64 x.who, .slice A x.bar.length c, .int .i64 x.pay] 38) (.cells #[.int .i64 y.who, .slice B y.bar.length d, .int .i64 y.pay] 38)
  have hb2 := hb0to (al_below w (.cells #[.int .i64 x.who, .slice A x.bar.length c, .int .i64 x.pay] 38)) (al_below _ (.cells #[.int .i64 y.who, .slice B y.bar.length d, .int .i64 y.pay] 38))
  obtain ⟨W2, hW2⟩ : ∃ W2, (w.alloc (.cells #[.int .i64 x.who, .slice A x.bar.length c, .int .i64 x.pay] 38)).alloc (.cells #[.int .i64 y.who, .slice B y.bar.length d, .int .i64 y.pay] 38) = W2 := ⟨_, rfl⟩
  rw [hW2] at h1 h2 hb2
  have H1 := Lib.hid h1
  have H2 := Lib.hid h2
  have HB2 := Lib.hid hb2
  have HW2 := Lib.hid hW2
  have HI := Lib.hid (ints_later hI hb2)
  have HJ := Lib.hid (ints_later hJ hb2)
  have a0 := cell_of_heap (o := 0) h1 rfl
  have a1 := cell_of_heap (o := 1) h1 rfl
  have b0 := cell_of_heap (o := 0) h2 rfl
  have b1 := cell_of_heap (o := 1) h2 rfl
  clear h1 h2 hb2 hW2 hI hJ
  by_cases hw : x.who = y.who
  · have hd : (x.who == y.who) = true := by simp [hw]
    have HQ := Lib.hid (apartB_no hw)
    clear hw
    go_enter Try.func117, Try.ntmps117
    go_upto_region 1 with (fail)
    have e := HW2.out
    rw [e]
    clear e
    go_wp2_with (fail)
    go_ret
    exact ⟨by rw [HQ.out]; rfl, HB2.out⟩
  · have hd : (x.who == y.who) = false := by simp [hw]
    have HWH := Lib.hid hw
    clear hw
    go_enter Try.func117, Try.ntmps117
    go_upto_region 1 with (fail)
    have e := HW2.out
    rw [e]
    clear e
    go_wp2_with (fail)
    clear a0 a1 b0 b1
    go_loopw [5] (fun i wr => ∃ k : Nat, k ≤ x.bar.length ∧ i = .int .i64 k ∧ Hid (∀ j n, j < k → x.bar[j]? = some n → n ∉ y.bar) ∧ Hid (Below W2.heap.size W2 wr)) (fun i _ => x.bar.length - (intOf i).toNat)
    case atStart => exact ⟨0, Nat.zero_le _, rfl, Lib.hid (fun j n hj => by omega), Lib.hid (Below.refl _ _)⟩
    case round =>
      obtain ⟨k, hk, rfl, hno, hb⟩ := hrel
      have a1 := below_cell hb.out (cell_of_heap (o := 1) H1.out rfl)
      have b1 := below_cell hb.out (cell_of_heap (o := 1) H2.out rfl)
      by_cases hlt : k < x.bar.length
      · obtain ⟨n, hn⟩ : ∃ n, x.bar[k]? = some n := ⟨_, List.getElem?_eq_getElem hlt⟩
        obtain ⟨b', o', eA, b1lt, d1⟩ := HI.out.at_ hn
        have d2 := below_cell hb.out d1
        subst eA
        have ya := extB_cell a1
        have yb := extB_cell b1
        have yd := extB_cell d2
        have H24 := Lib.hid (fun z => rIn_any y.bar hy n B d (extB wr z) (ints_later (ints_later HJ.out hb.out) (extB_below wr z)))
        have HN := Lib.hid hn
        clear hn d1
        cases hin : decide (n ∈ y.bar)
        · rw [hin] at H24
          have HNI := Lib.hid (of_decide_eq_false hin)
          clear hin
          go_upto_region 6 with (fail)
          refine wp_region_ext (by kernel_rfl) (by kernel_rfl) ?_
          repeat (go_big_quiet_step ((go_at_call 24; exact ext_call (H24.out _))))
          refine wpQuiet_nil ?_
          rintro _ ⟨t1, rfl⟩
          clear ya yb yd a1 b1 d2
          have HB6 := Lib.hid (extB_below wr t1)
          obtain ⟨W6, hW6⟩ : ∃ W6, extB wr t1 = W6 := ⟨_, rfl⟩
          rw [hW6] at HB6 ⊢
          clear hW6
          go_wp2_with (fail)
          go_roundw
          case rel => exact ⟨k + 1, by omega, by go_num, Lib.hid (fun j m hj hm => by
            by_cases e : j = k
            · subst e; have := HN.out.symm.trans hm; cases this; exact HNI.out
            · exact hno.out j m (by omega) hm), Lib.hid (hb0to hb.out HB6.out)⟩
          case measure => simp [intOf]; omega
        · rw [hin] at H24
          have HQ := Lib.hid (apartB_in (List.mem_of_getElem? HN.out) (of_decide_eq_true hin))
          clear hin
          go_upto_region 6 with (fail)
          refine wp_region_ext (by kernel_rfl) (by kernel_rfl) ?_
          repeat (go_big_quiet_step ((go_at_call 24; exact ext_call (H24.out _))))
          refine wpQuiet_nil ?_
          rintro _ ⟨t1, rfl⟩
          clear ya yb yd a1 b1 d2
          have HB6 := Lib.hid (extB_below wr t1)
          obtain ⟨W6, hW6⟩ : ∃ W6, extB wr t1 = W6 := ⟨_, rfl⟩
          rw [hW6] at HB6 ⊢
          clear hW6
          go_wp2_with (fail)
          go_ret
          exact ⟨by rw [HQ.out]; rfl, hb0to HB2.out (hb0to hb.out HB6.out)⟩
      · obtain rfl : k = x.bar.length := by omega
        have HQ := Lib.hid (show apartB x y = true from apart_iff.2 ⟨HWH.out, fun n hn => by
          obtain ⟨j, hj⟩ := List.getElem?_of_mem hn
          exact hno.out j n (List.getElem?_eq_some_iff.1 hj).1 hj⟩)
        go_wp2_with (fail)
        go_ret
        exact ⟨by rw [HQ.out]; rfl, hb0to HB2.out hb.out⟩
set_option maxRecDepth 100000 in
set_option maxHeartbeats 4000000 in
theorem rBrings_any (F : FL) (f : Fair) (hn : f.q.length ≤ 8) (hp : ∀ b ∈ f.q, 0 ≤ b.pay ∧ b.pay ≤ 99) (l : List Nat) (hl : l.length ≤ 8) (hin : ∀ i ∈ l, i < f.q.length) (A : Option Addr) (c : Nat) (w : World) (hF : FairAt w w.heap.size F f) (hI : IntsAt w w.heap.size A (intsN l)) :
    Calls Try.prog 57 #[F.enc f, .slice A l.length c] w fun e w' => e = .returned (.int .i64 (bringsL f.q l)) ∧ Below w.heap.size w w' := by
  have hbw := al_below w (.cells #[.slice F.L.Ak f.h.ks.length F.L.ck, .int .i64 f.h.fl, .slice F.L.Ap f.h.ps.length F.L.cp, .slice F.L.Ab f.h.bs.length F.L.cb, .slice F.Ap f.pk.length F.cp, .int .i64 f.day, .int .i64 f.nb, .slice F.Aq f.q.length F.cq] 29)
  have HB := Lib.hid (FBox.new w F f)
  obtain ⟨c0, c1, c2, c3, c4, c5, c6, c7⟩ := (FBox.new w F f).cells
  obtain ⟨W0, hW0⟩ : ∃ W0, w.alloc (.cells #[.slice F.L.Ak f.h.ks.length F.L.ck, .int .i64 f.h.fl, .slice F.L.Ap f.h.ps.length F.L.cp, .slice F.L.Ab f.h.bs.length F.L.cb, .slice F.Ap f.pk.length F.cp, .int .i64 f.day, .int .i64 f.nb, .slice F.Aq f.q.length F.cq] 29) = W0 := ⟨_, rfl⟩
  rw [hW0] at hbw HB c0 c1 c2 c3 c4 c5 c6 c7
  have HBW := Lib.hid hbw
  have HW0 := Lib.hid hW0
  have HF := Lib.hid (hF.below hbw)
  clear hbw hW0 hF
  have HI := Lib.hid (ints_later hI HBW.out)
  have HIN := Lib.hid hin
  have HP := Lib.hid hp
  clear hI hin hp c0 c1 c2 c3 c4 c5 c6 c7
  obtain ⟨L, Ap, cp, Aq, cq⟩ := F
  go_enter Try.func57, Try.ntmps57
  go_upto_region 1 with (fail)
  have e := HW0.out
  rw [e]
  clear e
  go_wp2_with (fail)
  go_loopw [5, 6] (fun s i wr => ∃ (k : Nat) (n : Int), k ≤ l.length ∧ i = .int .i64 k ∧ s = .int .i64 n ∧ 0 ≤ n ∧ n ≤ 99 * (k : Int) ∧ Hid (n = bringsL f.q (l.take k)) ∧ Hid (Below W0.heap.size W0 wr)) (fun _ i _ => l.length - (intOf i).toNat)
  case atStart => exact ⟨0, 0, Nat.zero_le _, rfl, rfl, by omega, by omega, Lib.hid rfl, Lib.hid (Below.refl _ _)⟩
  case round =>
    obtain ⟨k, n, hk, rfl, rfl, hn0, hn1, hq, hb⟩ := hrel
    obtain ⟨g0, g1, g2, g3, g4, g5, g6, g7⟩ := (HB.out.of (hb.out.block _ HB.out.lt)).cells
    by_cases hlt : k < l.length
    · obtain ⟨i, hi⟩ : ∃ i, l[k]? = some i := ⟨_, List.getElem?_eq_getElem hlt⟩
      have hiq := HIN.out i (List.mem_of_getElem? hi)
      obtain ⟨x, hx⟩ : ∃ x, f.q[i]? = some x := ⟨_, List.getElem?_eq_getElem hiq⟩
      have hxp := HP.out x (List.mem_of_getElem? hx)
      obtain ⟨b1, o1, rfl, b1lt, d1⟩ := HI.out.at_ (intsN_at hi)
      obtain ⟨bk, ok, A', c', eA, hbk, _, _, d3, _, _⟩ := HF.out.q.at_ hx
      have e1 := below_cell hb.out d1
      have e3 := below_cell hb.out d3
      rw [show Aq = _ from eA] at g7
      have HT := Lib.hid (show bringsL f.q (l.take (k + 1)) = bringsL f.q (l.take k) + x.pay by rw [show l.take (k + 1) = l.take k ++ [i] from (take_snoc_next hi).symm, brings_app, brings_cons, brings_nil, payAt_some hx]; omega)
      have ya := extB_cell g7
      have yb := extB_cell e1
      have yd := extB_cell e3
      have hw1 : IntKind.i64.wrap (n + x.pay) = n + x.pay := IntWalk.i64_in _ (by omega)
      clear hi hx d1 d3
      go_upto_region 5 with (fail)
      refine wp_region_ext (by kernel_rfl) (by kernel_rfl) ?_
      repeat (go_big_quiet_step (fail))
      refine wpQuiet_nil ?_
      rintro _ ⟨t1, rfl⟩
      clear ya yb yd e1 e3 g0 g1 g2 g3 g4 g5 g6 g7
      have HB6 := Lib.hid (extB_below wr t1)
      obtain ⟨W6, hW6⟩ : ∃ W6, extB wr t1 = W6 := ⟨_, rfl⟩
      rw [hW6] at HB6 ⊢
      clear hW6
      go_wp2_with (fail)
      go_roundw
      case rel => exact ⟨k + 1, n + x.pay, by omega, by go_num, by first | rfl | rw [hw1], by omega, by omega, Lib.hid (by rw [HT.out, hq.out]), Lib.hid (hb0to hb.out HB6.out)⟩
      case measure => simp [intOf]; omega
    · obtain rfl : k = l.length := by omega
      have hq2 := hq.out
      rw [List.take_length] at hq2
      have HQ := Lib.hid hq2
      go_wp2_with (fail)
      go_ret
      exact ⟨by rw [← HQ.out]; rfl, hb0to HBW.out hb.out⟩

end Go.Proofs.Ytmconopnplgcfaa
