import Derived.Test.YtmconopnplgcfaaGA
import Derived.Test.YtmconopnplgcfaaRU
namespace Go.Proofs.Ytmconopnplgcfaa
open Go.RowKit

/-! Fairs that a law makes; what is plain of SalesHonest. -/
/-- A fair that a law made, in a variable of its own. -/
def NewF (W : World) (g : Fair) (s : Value) (wx : World) : Prop := ∃ (z : Nat) (F' : FL), s = .pointer (some ⟨z, 0, none⟩) ∧ W.heap.size ≤ z ∧ FBox wx z F' g ∧ FairAt wx wx.heap.size F' g ∧ FLOK F' g ∧ Below W.heap.size W wx
theorem newF_new {W w5 : World} {n : Nat} {g : Fair} {F' : FL} (hc : CopF w5 n F' g) (hq : OwnsQ InnOwn w5 n (.slice F'.Aq g.q.length F'.cq) g.q) (hb : Below W.heap.size W w5) : NewF W g (.pointer (some ⟨w5.heap.size, 0, none⟩)) (w5.alloc (.cells #[.slice F'.L.Ak g.h.ks.length F'.L.ck, .int .i64 g.h.fl, .slice F'.L.Ap g.h.ps.length F'.L.cp, .slice F'.L.Ab g.h.bs.length F'.L.cb, .slice F'.Ap g.pk.length F'.cp, .int .i64 g.day, .int .i64 g.nb, .slice F'.Aq g.q.length F'.cq] 29)) := by
  obtain ⟨h1, h2⟩ := CopRet.fair hc hq
  exact ⟨_, F', rfl, hb.size, FBox.new w5 F' g, h1.below (al_below _ _), h2, hb0to hb (al_below _ _)⟩
theorem newF_put {W w5 : World} {n z : Nat} {g : Fair} {F' : FL} (hc : CopF w5 n F' g) (hq : OwnsQ InnOwn w5 n (.slice F'.Aq g.q.length F'.cq) g.q) (hb : Below W.heap.size W w5) (hz : w5.heap[z]? = some (.cells #[.slice none 0 0, .int .i64 0, .slice none 0 0, .slice none 0 0, .slice none 0 0, .int .i64 0, .int .i64 0, .slice none 0 0] 29 (0, 0))) (hn : W.heap.size ≤ z) :
    NewF W g (.pointer (some ⟨z, 0, none⟩)) ((((((((w5.setCell ⟨z, 0, none⟩ (.slice F'.L.Ak g.h.ks.length F'.L.ck)).setCell ⟨z, 1, none⟩ (.int .i64 g.h.fl)).setCell ⟨z, 2, none⟩ (.slice F'.L.Ap g.h.ps.length F'.L.cp)).setCell ⟨z, 3, none⟩ (.slice F'.L.Ab g.h.bs.length F'.L.cb)).setCell ⟨z, 4, none⟩ (.slice F'.Ap g.pk.length F'.cp)).setCell ⟨z, 5, none⟩ (.int .i64 g.day)).setCell ⟨z, 6, none⟩ (.int .i64 g.nb)).setCell ⟨z, 7, none⟩ (.slice F'.Aq g.q.length F'.cq)) := by
  obtain ⟨h1, h2⟩ := CopRet.fair (hc.keepT (keepT_set8 hz (by decide) _ _ _ _ _ _ _ _) (keepT_set8 hz (by decide) _ _ _ _ _ _ _ _) (keepT_set8 hz (by decide) _ _ _ _ _ _ _ _)) (hq.keepO (keepT_set8 hz (by decide) _ _ _ _ _ _ _ _) (keepT_set8 hz (by decide) _ _ _ _ _ _ _ _))
  exact ⟨z, F', rfl, hn, set8_heap hz _ _ _ _ _ _ _ _, h1, h2, below_set8 hb hn _ _ _ _ _ _ _ _⟩
theorem offer_valid {f : Fair} {i : Nat} {b : Bid} (hb : f.q[i]? = some b) (hv : validF f = true) {p : Int} (hp : 0 ≤ p ∧ p ≤ 99) : validF (offerF f i p) = true := by
  have hq : (offerF f i p).q = f.q.set i { b with pay := p } := offer_eq hb p
  unfold validF at hv ⊢
  simp only [Bool.and_eq_true] at hv ⊢
  obtain ⟨h1, h2, h3⟩ := hv
  refine ⟨h1, ?_, ?_⟩
  · unfold numsOK at h2 ⊢
    rw [hq, List.length_set]; exact h2
  · rw [hq, List.all_eq_true]
    rw [List.all_eq_true] at h3
    intro x hx
    have hx' : ∀ y, bidOK (offerF f i p) y = bidOK f y := fun y => rfl
    rw [hx']
    rcases List.mem_or_eq_of_mem_set hx with hm | rfl
    · exact h3 x hm
    · have := h3 b (List.mem_of_getElem? hb)
      unfold bidOK at this ⊢
      simp only [Bool.and_eq_true, inR_true] at this ⊢
      exact ⟨this.1, hp, this.2.2⟩
theorem offer_fn {f : Fair} {i : Nat} {b : Bid} (hb : f.q[i]? = some b) (hn : FN f) (p : Int) : FN (offerF f i p) := by
  have hq : (offerF f i p).q = f.q.set i { b with pay := p } := offer_eq hb p
  refine ⟨hn.h, hn.p, by rw [hq, List.length_set]; exact hn.q, fun x hx => ?_⟩
  rw [hq] at hx
  rcases List.mem_or_eq_of_mem_set hx with hm | rfl
  · exact hn.b x hm
  · exact hn.b b (List.mem_of_getElem? hb)
theorem honest_plain {f : Fair} (hf : FOK f) {i : Nat} {b : Bid} {d : Int} (hb : f.q[i]? = some b) (hi : i ∈ wL f) (hd : 0 < d) (hg : FOK (offerF f i (b.pay + d))) : i ∈ wL (offerF f i (b.pay + d)) ∧ payV (offerF f i (b.pay + d)).q (rdF (offerF f i (b.pay + d))) b.who = payV f.q (rdF f) b.who := by
  obtain ⟨h1, h2, h3⟩ := honest hb hd (wL_win hf) hi (wL_win hg) (noneV_is hf.ql hf.pos')
  refine ⟨h1, ?_⟩
  rw [payV_eq hg.ql hg.pos', payV_eq hf.ql hf.pos']
  have h4 : noneV (offerF f i (b.pay + d)).q (rdF (offerF f i (b.pay + d))) b.who = noneV f.q (rdF f) b.who := (noneV_is hg.ql hg.pos').unique h2
  rw [h4]
  have h5 : othersL (offerF f i (b.pay + d)).q b.who (winL (offerF f i (b.pay + d)).q (rdF (offerF f i (b.pay + d)))) = othersL f.q b.who (winL f.q (rdF f)) := h3
  rw [h5]

end Go.Proofs.Ytmconopnplgcfaa
namespace Go.Proofs.Ytmconopnplgcfaa
open Go.RowKit

/-! SalesHonest. -/
theorem won_who {q : List Bid} {l : List Nat} (hl : ∀ i ∈ l, i < q.length) (v : Int) : wonI q l v = -1 ∨ ∃ i b, i ∈ l ∧ q[i]? = some b ∧ wonI q l v = (i : Int) ∧ b.who = v := by
  unfold wonI
  cases e : l.find? (ownP q v) with
  | none => exact .inl rfl
  | some i =>
    have hi := List.mem_of_find?_eq_some e
    have ho := List.find?_some e
    obtain ⟨b, hb⟩ : ∃ b, q[i]? = some b := ⟨_, List.getElem?_eq_getElem (hl i hi)⟩
    rw [own_some hb, decide_eq_true_eq] at ho
    exact .inr ⟨i, b, hi, hb, rfl, ho⟩
set_option maxRecDepth 100000 in
set_option maxHeartbeats 4000000 in
theorem honest_law (F : FL) (f : Fair) (a m : Int) (w : World) (hok : FLOK F f) (hF : FairAt w w.heap.size F f) : Calls Try.prog 3 #[F.enc f, .int .i64 a, .int .i64 m] w fun e w' => e = .returned (.bool true) ∧ Below w.heap.size w w' := by
  have hbw := al_below w (.cells #[.slice F.L.Ak f.h.ks.length F.L.ck, .int .i64 f.h.fl, .slice F.L.Ap f.h.ps.length F.L.cp, .slice F.L.Ab f.h.bs.length F.L.cb, .slice F.Ap f.pk.length F.cp, .int .i64 f.day, .int .i64 f.nb, .slice F.Aq f.q.length F.cq] 29)
  have HB := Lib.hid (FBox.new w F f)
  obtain ⟨c0, c1, c2, c3, c4, c5, c6, c7⟩ := (FBox.new w F f).cells
  obtain ⟨W0, hW0⟩ : ∃ W0, w.alloc (.cells #[.slice F.L.Ak f.h.ks.length F.L.ck, .int .i64 f.h.fl, .slice F.L.Ap f.h.ps.length F.L.cp, .slice F.L.Ab f.h.bs.length F.L.cb, .slice F.Ap f.pk.length F.cp, .int .i64 f.day, .int .i64 f.nb, .slice F.Aq f.q.length F.cq] 29) = W0 := ⟨_, rfl⟩
  rw [hW0] at hbw HB c0 c1 c2 c3 c4 c5 c6 c7
  have HBW := Lib.hid hbw
  have HW0 := Lib.hid hW0
  have HF := Lib.hid (hF.below hbw)
  clear hbw hW0 hF
  have M := Lib.hid (FIn.mk HF.out HB.out)
  have B := Lib.hid (Below.refl W0.heap.size W0)
  have H16 := Lib.hid (fun W hW => readyF_any F f W hW)
  cases hr : readyB9 f
  · rw [hr] at H16
    clear hok hr
    obtain ⟨L, Ap, cp, Aq, cq⟩ := F
    go_enter Try.func3, Try.ntmps3
    go_upto_region 1 with (fail)
    have e := HW0.out
    rw [e]
    clear e

    go_wp2_with (first
      | (go_at_call 16; refine (H16.out _ M.out.H).mono ?_; rintro e wn ⟨rfl, hb⟩; have MN := Lib.hid (M.out.next hb); have BN := Lib.hid (hb0to B.out hb); have M := MN; have B := BN; clear MN BN; (first | (have IN := Lib.hid (ints_later I.out hb); have I := IN; clear IN) | skip); obtain ⟨r0, r1, r2, r3, r4, r5, r6, r7⟩ := M.out.x.cells; clear hb)
      | (go_at_call 19; refine (works_any _).mono ?_; rintro e wn ⟨rfl, hb⟩; have MN := Lib.hid (M.out.next hb); have BN := Lib.hid (hb0to B.out hb); have M := MN; have B := BN; clear MN BN; (first | (have IN := Lib.hid (ints_later I.out hb); have I := IN; clear IN) | skip); obtain ⟨r0, r1, r2, r3, r4, r5, r6, r7⟩ := M.out.x.cells; clear hb))
    go_ret
    exact ⟨rfl, hb0to HBW.out B.out⟩
  · rw [hr] at H16
    obtain ⟨hh, hv⟩ := readyB9_iff.1 hr
    have hf := FOK.of hv
    have hn := hugeF_fn hh
    have H17 := Lib.hid (fun W => rIsBuyer_any F f a hf.n0 hf.n1 W)
    clear hr
    cases hb1 : isBuyer f a
    · rw [hb1] at H17
      clear hok hb1 hf hn hv hh
      obtain ⟨L, Ap, cp, Aq, cq⟩ := F
      go_enter Try.func3, Try.ntmps3
      go_upto_region 1 with (fail)
      have e := HW0.out
      rw [e]
      clear e

      go_wp2_with (first
        | (go_at_call 16; refine (H16.out _ M.out.H).mono ?_; rintro e wn ⟨rfl, hb⟩; have MN := Lib.hid (M.out.next hb); have BN := Lib.hid (hb0to B.out hb); have M := MN; have B := BN; clear MN BN; (first | (have IN := Lib.hid (ints_later I.out hb); have I := IN; clear IN) | skip); obtain ⟨r0, r1, r2, r3, r4, r5, r6, r7⟩ := M.out.x.cells; clear hb)
        | (go_at_call 17; refine (H17.out _).mono ?_; rintro e wn ⟨rfl, hb⟩; have MN := Lib.hid (M.out.next hb); have BN := Lib.hid (hb0to B.out hb); have M := MN; have B := BN; clear MN BN; (first | (have IN := Lib.hid (ints_later I.out hb); have I := IN; clear IN) | skip); obtain ⟨r0, r1, r2, r3, r4, r5, r6, r7⟩ := M.out.x.cells; clear hb)
        | (go_at_call 19; refine (works_any _).mono ?_; rintro e wn ⟨rfl, hb⟩; have MN := Lib.hid (M.out.next hb); have BN := Lib.hid (hb0to B.out hb); have M := MN; have B := BN; clear MN BN; (first | (have IN := Lib.hid (ints_later I.out hb); have I := IN; clear IN) | skip); obtain ⟨r0, r1, r2, r3, r4, r5, r6, r7⟩ := M.out.x.cells; clear hb))
      go_ret
      exact ⟨rfl, hb0to HBW.out B.out⟩
    · rw [hb1] at H17
      cases hm1 : inR m 1 99
      · clear hok hb1 hf hn hv hh
        obtain ⟨L, Ap, cp, Aq, cq⟩ := F
        go_enter Try.func3, Try.ntmps3
        go_upto_region 1 with (fail)
        have e := HW0.out
        rw [e]
        clear e

        go_wp2_with (first
          | (go_at_call 16; refine (H16.out _ M.out.H).mono ?_; rintro e wn ⟨rfl, hb⟩; have MN := Lib.hid (M.out.next hb); have BN := Lib.hid (hb0to B.out hb); have M := MN; have B := BN; clear MN BN; (first | (have IN := Lib.hid (ints_later I.out hb); have I := IN; clear IN) | skip); obtain ⟨r0, r1, r2, r3, r4, r5, r6, r7⟩ := M.out.x.cells; clear hb)
          | (go_at_call 17; refine (H17.out _).mono ?_; rintro e wn ⟨rfl, hb⟩; have MN := Lib.hid (M.out.next hb); have BN := Lib.hid (hb0to B.out hb); have M := MN; have B := BN; clear MN BN; (first | (have IN := Lib.hid (ints_later I.out hb); have I := IN; clear IN) | skip); obtain ⟨r0, r1, r2, r3, r4, r5, r6, r7⟩ := M.out.x.cells; clear hb)
          | (go_at_call 18; refine (within1_any _ _ _ _).mono ?_; rintro e wn ⟨rfl, rfl⟩)
          | (go_at_call 19; refine (works_any _).mono ?_; rintro e wn ⟨rfl, hb⟩; have MN := Lib.hid (M.out.next hb); have BN := Lib.hid (hb0to B.out hb); have M := MN; have B := BN; clear MN BN; (first | (have IN := Lib.hid (ints_later I.out hb); have I := IN; clear IN) | skip); obtain ⟨r0, r1, r2, r3, r4, r5, r6, r7⟩ := M.out.x.cells; clear hb))
        go_ret
        exact ⟨rfl, hb0to HBW.out B.out⟩
      · have H20 := Lib.hid (fun W hW => winnersF_any F f hn hv W hW)
        have H21 := Lib.hid (fun A c W hW hI => wonF_any F f hn (wL f) (fun i hi => (wL_win hf).sale.lt hi) (by have := wL_len hf; have := hf.ql; omega) A c a W hW hI)
        have hmb := inR_true.1 hm1
        rcases won_who (fun i hi => (wL_win hf).sale.lt hi) a with hw | ⟨i, x, hi, hx, hw, hwho⟩
        · rw [hw] at H21
          clear hok hb1 hf hn hv hh hw
          obtain ⟨L, Ap, cp, Aq, cq⟩ := F
          go_enter Try.func3, Try.ntmps3
          go_upto_region 1 with (fail)
          have e := HW0.out
          rw [e]
          clear e

          go_wp2_with (first
            | (go_at_call 16; refine (H16.out _ M.out.H).mono ?_; rintro e wn ⟨rfl, hb⟩; have MN := Lib.hid (M.out.next hb); have BN := Lib.hid (hb0to B.out hb); have M := MN; have B := BN; clear MN BN; (first | (have IN := Lib.hid (ints_later I.out hb); have I := IN; clear IN) | skip); obtain ⟨r0, r1, r2, r3, r4, r5, r6, r7⟩ := M.out.x.cells; clear hb)
            | (go_at_call 17; refine (H17.out _).mono ?_; rintro e wn ⟨rfl, hb⟩; have MN := Lib.hid (M.out.next hb); have BN := Lib.hid (hb0to B.out hb); have M := MN; have B := BN; clear MN BN; (first | (have IN := Lib.hid (ints_later I.out hb); have I := IN; clear IN) | skip); obtain ⟨r0, r1, r2, r3, r4, r5, r6, r7⟩ := M.out.x.cells; clear hb)
            | (go_at_call 18; refine (within1_any _ _ _ _).mono ?_; rintro e wn ⟨rfl, rfl⟩)
            | (go_at_call 19; refine (works_any _).mono ?_; rintro e wn ⟨rfl, hb⟩; have MN := Lib.hid (M.out.next hb); have BN := Lib.hid (hb0to B.out hb); have M := MN; have B := BN; clear MN BN; (first | (have IN := Lib.hid (ints_later I.out hb); have I := IN; clear IN) | skip); obtain ⟨r0, r1, r2, r3, r4, r5, r6, r7⟩ := M.out.x.cells; clear hb)
            | (go_at_call 20; refine (H20.out _ M.out.H).mono ?_; rintro e wn ⟨⟨A3, k3, rfl, hI⟩, hb⟩; have MN := Lib.hid (M.out.next hb); have BN := Lib.hid (hb0to B.out hb); have M := MN; have B := BN; clear MN BN; (first | (have IN := Lib.hid (ints_later I.out hb); have I := IN; clear IN) | skip); obtain ⟨r0, r1, r2, r3, r4, r5, r6, r7⟩ := M.out.x.cells; have I := Lib.hid hI; clear hI; clear hb)
            | (go_at_call 21; refine (H21.out A3 k3 _ M.out.H I.out).mono ?_; rintro e wn ⟨rfl, hb⟩; have MN := Lib.hid (M.out.next hb); have BN := Lib.hid (hb0to B.out hb); have M := MN; have B := BN; clear MN BN; (first | (have IN := Lib.hid (ints_later I.out hb); have I := IN; clear IN) | skip); obtain ⟨r0, r1, r2, r3, r4, r5, r6, r7⟩ := M.out.x.cells; clear hb))
          go_ret
          exact ⟨rfl, hb0to HBW.out B.out⟩
        · rw [hw] at H21
          have hil : i < f.q.length := (List.getElem?_eq_some_iff.1 hx).1
          have hxp := hf.pay x (List.mem_of_getElem? hx)
          have hql := hf.ql
          have hw1 : IntKind.i64.wrap (x.pay + m) = x.pay + m := IntWalk.i64_in _ (by omega)
          have hw2 : wrap64 (x.pay + m) = x.pay + m := by rw [wrap64_eq]; exact hw1
          have d5 : decide ((i : Int) < 0) = false := decide_eq_false (by omega)
          by_cases hbig : 99 < x.pay + m
          · have d6 : decide (99 < x.pay + m) = true := decide_eq_true hbig
            clear hok hb1 hf hn hv hh hw hwho hi
            obtain ⟨L, Ap, cp, Aq, cq⟩ := F
            obtain ⟨bk, ok, A', c', rfl, hbk, x1, x2, x3, hA', hXI⟩ := HF.out.q.at_ hx
            have X3 := Lib.hid x3
            clear x1 x2 x3 hA' hXI hx
            go_enter Try.func3, Try.ntmps3
            go_upto_region 1 with (fail)
            have e := HW0.out
            rw [e]
            clear e

            go_wp2_with (first
              | (go_at_call 16; refine (H16.out _ M.out.H).mono ?_; rintro e wn ⟨rfl, hb⟩; have MN := Lib.hid (M.out.next hb); have BN := Lib.hid (hb0to B.out hb); have M := MN; have B := BN; clear MN BN; (first | (have IN := Lib.hid (ints_later I.out hb); have I := IN; clear IN) | skip); obtain ⟨r0, r1, r2, r3, r4, r5, r6, r7⟩ := M.out.x.cells; clear hb)
              | (go_at_call 17; refine (H17.out _).mono ?_; rintro e wn ⟨rfl, hb⟩; have MN := Lib.hid (M.out.next hb); have BN := Lib.hid (hb0to B.out hb); have M := MN; have B := BN; clear MN BN; (first | (have IN := Lib.hid (ints_later I.out hb); have I := IN; clear IN) | skip); obtain ⟨r0, r1, r2, r3, r4, r5, r6, r7⟩ := M.out.x.cells; clear hb)
              | (go_at_call 18; refine (within1_any _ _ _ _).mono ?_; rintro e wn ⟨rfl, rfl⟩)
              | (go_at_call 19; refine (works_any _).mono ?_; rintro e wn ⟨rfl, hb⟩; have MN := Lib.hid (M.out.next hb); have BN := Lib.hid (hb0to B.out hb); have M := MN; have B := BN; clear MN BN; (first | (have IN := Lib.hid (ints_later I.out hb); have I := IN; clear IN) | skip); obtain ⟨r0, r1, r2, r3, r4, r5, r6, r7⟩ := M.out.x.cells; clear hb)
              | (go_at_call 20; refine (H20.out _ M.out.H).mono ?_; rintro e wn ⟨⟨A3, k3, rfl, hI⟩, hb⟩; have MN := Lib.hid (M.out.next hb); have BN := Lib.hid (hb0to B.out hb); have M := MN; have B := BN; clear MN BN; (first | (have IN := Lib.hid (ints_later I.out hb); have I := IN; clear IN) | skip); obtain ⟨r0, r1, r2, r3, r4, r5, r6, r7⟩ := M.out.x.cells; have I := Lib.hid hI; clear hI; clear hb)
              | (go_at_call 21; refine (H21.out A3 k3 _ M.out.H I.out).mono ?_; rintro e wn ⟨rfl, hb⟩; have MN := Lib.hid (M.out.next hb); have BN := Lib.hid (hb0to B.out hb); have M := MN; have B := BN; clear MN BN; (first | (have IN := Lib.hid (ints_later I.out hb); have I := IN; clear IN) | skip); obtain ⟨r0, r1, r2, r3, r4, r5, r6, r7⟩ := M.out.x.cells; have e3 := below_cell B.out X3.out; clear hb))
            go_ret
            exact ⟨rfl, hb0to HBW.out B.out⟩
          · have d6 : decide (99 < x.pay + m) = false := decide_eq_false hbig
            have hg := offer_valid hx hv (p := x.pay + m) (by omega)
            have hgn := offer_fn hx hn (x.pay + m)
            have hgf := FOK.of hg
            obtain ⟨hp1, hp2⟩ := honest_plain hf hx hi (d := m) (by omega) hgf
            have H22 := Lib.hid (fun W hW => offered_any F f hn hok i (x.pay + m) hil W hW)
            have H23 := Lib.hid (fun W hW => Pays_any F f hn a W hW)
            have e23 : payRet f a = (payV f.q (rdF f) a, 0) := numRF_ok (by rw [hb1]; exact ask_valid hv)
            rw [e23] at H23
            have H20g := Lib.hid (fun G W hW => winnersF_any G (offerF f i (x.pay + m)) hgn hg W hW)
            have H23g := Lib.hid (fun G W hW => Pays_any G (offerF f i (x.pay + m)) hgn a W hW)
            have e23g : payRet (offerF f i (x.pay + m)) a = (payV f.q (rdF f) a, 0) := by
              rw [hwho] at hp2
              rw [← hp2]
              exact numRF_ok (by rw [show isBuyer (offerF f i (x.pay + m)) a = isBuyer f a from rfl, hb1]; exact ask_valid hg)
            rw [e23g] at H23g
            have hgl := wL_len hgf
            have hgq := hgf.ql
            have H24 := Lib.hid (fun A c W hI => rIn_any (intsN (wL (offerF f i (x.pay + m)))) (by rw [intsN_len]; omega) (i : Int) A c W hI)
            have hd24 : decide ((i : Int) ∈ intsN (wL (offerF f i (x.pay + m)))) = true := decide_eq_true (List.mem_map.2 ⟨i, hp1, rfl⟩)
            rw [hd24, intsN_len] at H24
            generalize payV f.q (rdF f) a = pv at H23 H23g
            generalize wL (offerF f i (x.pay + m)) = lg at H20g H24
            clear hok hb1 hf hn hv hh hw hwho hi hg hgn hgf hp1 hp2 e23 e23g hgl hgq hd24
            obtain ⟨L, Ap, cp, Aq, cq⟩ := F
            obtain ⟨bk, ok, A', c', rfl, hbk, x1, x2, x3, hA', hXI⟩ := HF.out.q.at_ hx
            have X3 := Lib.hid x3
            have hbw := HB.out.lt
            clear x1 x2 x3 hA' hXI hx
            go_enter Try.func3, Try.ntmps3
            go_upto_region 1 with (fail)
            have e := HW0.out
            rw [e]
            clear e
            go_upto_region 9 with (first
              | (go_at_call 16; refine (H16.out _ M.out.H).mono ?_; rintro e wn ⟨rfl, hb⟩; have MN := Lib.hid (M.out.next hb); have BN := Lib.hid (hb0to B.out hb); have M := MN; have B := BN; clear MN BN; (first | (have IN := Lib.hid (ints_later I.out hb); have I := IN; clear IN) | skip); obtain ⟨r0, r1, r2, r3, r4, r5, r6, r7⟩ := M.out.x.cells; clear hb)
              | (go_at_call 17; refine (H17.out _).mono ?_; rintro e wn ⟨rfl, hb⟩; have MN := Lib.hid (M.out.next hb); have BN := Lib.hid (hb0to B.out hb); have M := MN; have B := BN; clear MN BN; (first | (have IN := Lib.hid (ints_later I.out hb); have I := IN; clear IN) | skip); obtain ⟨r0, r1, r2, r3, r4, r5, r6, r7⟩ := M.out.x.cells; clear hb)
              | (go_at_call 18; refine (within1_any _ _ _ _).mono ?_; rintro e wn ⟨rfl, rfl⟩)
              | (go_at_call 20; refine (H20.out _ M.out.H).mono ?_; rintro e wn ⟨⟨A3, k3, rfl, hI⟩, hb⟩; have MN := Lib.hid (M.out.next hb); have BN := Lib.hid (hb0to B.out hb); have M := MN; have B := BN; clear MN BN; (first | (have IN := Lib.hid (ints_later I.out hb); have I := IN; clear IN) | skip); obtain ⟨r0, r1, r2, r3, r4, r5, r6, r7⟩ := M.out.x.cells; have I := Lib.hid hI; clear hI; clear hb)
              | (go_at_call 21; refine (H21.out A3 k3 _ M.out.H I.out).mono ?_; rintro e wn ⟨rfl, hb⟩; have MN := Lib.hid (M.out.next hb); have BN := Lib.hid (hb0to B.out hb); have M := MN; have B := BN; clear MN BN; (first | (have IN := Lib.hid (ints_later I.out hb); have I := IN; clear IN) | skip); obtain ⟨r0, r1, r2, r3, r4, r5, r6, r7⟩ := M.out.x.cells; have e3 := below_cell B.out X3.out; clear hb))
            have hwn := B.out.size
            have n3 : ¬ wn.heap.size = w.heap.size := by omega
            have n4 : ¬ w.heap.size = wn.heap.size := by omega
            have n7 : ¬ wn.heap.size = bk := by omega
            have n8 : ¬ bk = wn.heap.size := by omega
            go_cut [10] (fun s wx => NewF wn (offerF f i (x.pay + m)) s wx)
            case first =>
              have H22 := Lib.hid (fun W (hb : Below wn.heap.size wn W) => H22.out W (M.out.H.below hb))
              go_region_held3 (fun w' => w'.cell? ⟨w.heap.size, 0, none⟩ = some (.slice L.Ak f.h.ks.length L.ck) ∧ w'.cell? ⟨w.heap.size, 1, none⟩ = some (.int .i64 f.h.fl) ∧ w'.cell? ⟨w.heap.size, 2, none⟩ = some (.slice L.Ap f.h.ps.length L.cp) ∧ w'.cell? ⟨w.heap.size, 3, none⟩ = some (.slice L.Ab f.h.bs.length L.cb) ∧ w'.cell? ⟨w.heap.size, 4, none⟩ = some (.slice Ap f.pk.length cp) ∧ w'.cell? ⟨w.heap.size, 5, none⟩ = some (.int .i64 f.day) ∧ w'.cell? ⟨w.heap.size, 6, none⟩ = some (.int .i64 f.nb) ∧ w'.cell? ⟨w.heap.size, 7, none⟩ = some (.slice (some ⟨bk, ok, none⟩) f.q.length cq) ∧ w'.cell? ⟨bk, ok + i * 3 + 2, none⟩ = some (.int .i64 x.pay)) (first | go_keep)
                (first | (go_at_call 22; refine (H22.out _ (by first | exact Below.refl _ _ | exact al_below _ _ | exact hb0to (al_below _ _) (al_below _ _) | exact drew_below _ | exact rows_below1 _ _ | exact hb0to (al_below _ _) (rows_below1 _ _) | exact hb0to (drew_below _) (al_below _ _))).mono ?_; rintro e w5 ⟨⟨⟨⟨k1, k2, k3, k4, k5, k6⟩, k7, k8, k9, k10⟩, rfl, hcf, hq⟩, hb⟩; have B5 : Hid (Below wn.heap.size wn w5) := Lib.hid (by first | exact hb | exact hb0to (al_below _ _) hb | exact hb0to (drew_below _) hb | exact hb0to (rows_below1 _ _) hb); have HCF := Lib.hid hcf; have HQ := Lib.hid hq; (first | (have hz5 := zkeep hb (heap_new1 wn (.cells #[.slice none 0 0, .int .i64 0, .slice none 0 0, .slice none 0 0, .slice none 0 0, .int .i64 0, .int .i64 0, .slice none 0 0] 29)); have z0 := cell_of_heap (o := 0) hz5 rfl; have z1 := cell_of_heap (o := 1) hz5 rfl; have z2 := cell_of_heap (o := 2) hz5 rfl; have z3 := cell_of_heap (o := 3) hz5 rfl; have z4 := cell_of_heap (o := 4) hz5 rfl; have z5 := cell_of_heap (o := 5) hz5 rfl; have z6 := cell_of_heap (o := 6) hz5 rfl; have z7 := cell_of_heap (o := 7) hz5 rfl; have zf := frozen_of_heap hz5; have HZ := Lib.hid hz5; clear hz5) | skip); have M5 := M.out.next B5.out; obtain ⟨r0, r1, r2, r3, r4, r5, r6, r7⟩ := M5.x.cells; have e3 := below_cell (hb0to B.out B5.out) X3.out; have n5 : ¬ w5.heap.size = w.heap.size := (by have := B5.out.size; omega); have n6 : ¬ w.heap.size = w5.heap.size := (by omega); have n9 : ¬ w5.heap.size = bk := (by have := B5.out.size; omega); have n10 : ¬ bk = w5.heap.size := (by omega); clear hcf hq hb M5))
              all_goals
                go_wp2_with (fail)
                go_meet
                first
                  | (have hz9 := HZ.out; exact newF_put (F' := ⟨⟨k1, k2, k3, k4, k5, k6⟩, k7, k8, k9, k10⟩) HCF.out HQ.out B5.out hz9 (Nat.le_refl _))
                  | exact newF_new (F' := ⟨⟨k1, k2, k3, k4, k5, k6⟩, k7, k8, k9, k10⟩) HCF.out HQ.out B5.out
            case rest =>
              obtain ⟨z, ⟨⟨k1, k2, k3, k4, k5, k6⟩, k7, k8, k9, k10⟩, rfl, hz, hx5, hG, -, hb⟩ := hcut
              obtain ⟨wx, rfl⟩ : ∃ y : World, y = wc := ⟨_, rfl⟩
              have MN := Lib.hid (M.out.next hb)
              have BN := Lib.hid (hb0to B.out hb)
              have M := MN
              have B := BN
              have N := Lib.hid (FIn.mk hG hx5)
              clear MN BN H22 H16 H17 H20 H21 hb hG hx5 r0 r1 r2 r3 r4 r5 r6 r7 n3 n4 n7 n8 e3
              obtain ⟨r0, r1, r2, r3, r4, r5, r6, r7⟩ := M.out.x.cells
              obtain ⟨q0, q1, q2, q3, q4, q5, q6, q7⟩ := N.out.x.cells
              go_wp2_with (first
                | (go_at_call 20; refine (H20g.out _ _ N.out.H).mono ?_; rintro e wn ⟨⟨A4, m4, rfl, hJ⟩, hb⟩; have MN := Lib.hid (M.out.next hb); have BN := Lib.hid (hb0to B.out hb); have M := MN; have B := BN; clear MN BN; (first | (have IN := Lib.hid (ints_later I.out hb); have I := IN; clear IN) | skip); obtain ⟨r0, r1, r2, r3, r4, r5, r6, r7⟩ := M.out.x.cells; (first | (have NN := Lib.hid (N.out.next hb); have N := NN; clear NN; obtain ⟨q0, q1, q2, q3, q4, q5, q6, q7⟩ := N.out.x.cells) | skip); (first | (have JN := Lib.hid (ints_later J.out hb); have J := JN; clear JN) | skip); have J := Lib.hid hJ; clear hJ; clear hb)
                | (go_at_call 23; refine (H23.out _ M.out.H).mono ?_; rintro e wn ⟨rfl, hb⟩; have MN := Lib.hid (M.out.next hb); have BN := Lib.hid (hb0to B.out hb); have M := MN; have B := BN; clear MN BN; (first | (have IN := Lib.hid (ints_later I.out hb); have I := IN; clear IN) | skip); obtain ⟨r0, r1, r2, r3, r4, r5, r6, r7⟩ := M.out.x.cells; (first | (have NN := Lib.hid (N.out.next hb); have N := NN; clear NN; obtain ⟨q0, q1, q2, q3, q4, q5, q6, q7⟩ := N.out.x.cells) | skip); (first | (have JN := Lib.hid (ints_later J.out hb); have J := JN; clear JN) | skip); clear H23; clear hb)
                | (go_at_call 23; refine (H23g.out _ _ N.out.H).mono ?_; rintro e wn ⟨rfl, hb⟩; have MN := Lib.hid (M.out.next hb); have BN := Lib.hid (hb0to B.out hb); have M := MN; have B := BN; clear MN BN; (first | (have IN := Lib.hid (ints_later I.out hb); have I := IN; clear IN) | skip); obtain ⟨r0, r1, r2, r3, r4, r5, r6, r7⟩ := M.out.x.cells; (first | (have NN := Lib.hid (N.out.next hb); have N := NN; clear NN; obtain ⟨q0, q1, q2, q3, q4, q5, q6, q7⟩ := N.out.x.cells) | skip); (first | (have JN := Lib.hid (ints_later J.out hb); have J := JN; clear JN) | skip); clear hb)
                | (go_at_call 24; refine (H24.out _ _ _ J.out).mono ?_; rintro e wn ⟨rfl, hb⟩; have MN := Lib.hid (M.out.next hb); have BN := Lib.hid (hb0to B.out hb); have M := MN; have B := BN; clear MN BN; (first | (have IN := Lib.hid (ints_later I.out hb); have I := IN; clear IN) | skip); obtain ⟨r0, r1, r2, r3, r4, r5, r6, r7⟩ := M.out.x.cells; (first | (have NN := Lib.hid (N.out.next hb); have N := NN; clear NN; obtain ⟨q0, q1, q2, q3, q4, q5, q6, q7⟩ := N.out.x.cells) | skip); (first | (have JN := Lib.hid (ints_later J.out hb); have J := JN; clear JN) | skip); clear hb)
                | (go_at_call 19; refine (works_any _).mono ?_; rintro e wn ⟨rfl, hb⟩; have MN := Lib.hid (M.out.next hb); have BN := Lib.hid (hb0to B.out hb); have M := MN; have B := BN; clear MN BN; (first | (have IN := Lib.hid (ints_later I.out hb); have I := IN; clear IN) | skip); obtain ⟨r0, r1, r2, r3, r4, r5, r6, r7⟩ := M.out.x.cells; (first | (have NN := Lib.hid (N.out.next hb); have N := NN; clear NN; obtain ⟨q0, q1, q2, q3, q4, q5, q6, q7⟩ := N.out.x.cells) | skip); (first | (have JN := Lib.hid (ints_later J.out hb); have J := JN; clear JN) | skip); clear hb))
              go_ret
              exact ⟨rfl, hb0to HBW.out B.out⟩

end Go.Proofs.Ytmconopnplgcfaa
