import Derived.Test.YtmbcpmnigggbaaaLC
import Derived.Test.YtmbcpmnigggbaaaRI
import Derived.Laws.MakeOwn
namespace Go.Proofs.Ytmbcpmnigggbaaa
open Go.RowKit

/-! The law's words: Huge 39, ready 16, most 25, winners 20, won 21. -/
def hugeF (f : Fair) : Bool := hugeB f.h || (decide (40 < f.pk.length) || (decide (40 < f.q.length) || f.q.any fun b => decide (40 < b.bar.length)))
theorem hugeF_no {f : Fair} (h : hugeF f = false) : hugeB f.h = false ∧ f.pk.length ≤ 40 ∧ f.q.length ≤ 40 ∧ ∀ b ∈ f.q, b.bar.length ≤ 40 := by
  simp only [hugeF, Bool.or_eq_false_iff, decide_eq_false_iff_not, List.any_eq_false, decide_eq_true_eq] at h
  exact ⟨h.1, by omega, by omega, fun b hb => by have := h.2.2.2 b hb; omega⟩
theorem hugeF_fn {f : Fair} (h : hugeF f = false) : FN f := by
  obtain ⟨h1, h2, h3, h4⟩ := hugeF_no h
  obtain ⟨k1, k2, k3⟩ := huge_no h1
  exact ⟨⟨by omega, by omega, by omega⟩, by omega, by omega, fun b hb => by have := h4 b hb; omega⟩
theorem hugeF_yes {f : Fair} {k : Nat} {b : Bid} (hb : f.q[k]? = some b) (h : 40 < b.bar.length) : hugeF f = true := by
  have : (f.q.any fun b => decide (40 < b.bar.length)) = true := List.any_eq_true.2 ⟨b, List.mem_of_getElem? hb, by simpa using h⟩
  simp [hugeF, this]
theorem hugeF_all {f : Fair} (h1 : hugeB f.h = false) (h2 : f.pk.length ≤ 40) (h3 : f.q.length ≤ 40) (h : ∀ j x, j < f.q.length → f.q[j]? = some x → x.bar.length ≤ 40) : hugeF f = false := by
  simp only [hugeF, h1, Bool.false_or, Bool.or_eq_false_iff, decide_eq_false_iff_not, List.any_eq_false, decide_eq_true_eq]
  refine ⟨by omega, by omega, fun b hb => ?_⟩
  obtain ⟨j, hj⟩ := List.getElem?_of_mem hb
  have := h j b (List.getElem?_eq_some_iff.1 hj).1 hj
  omega
set_option maxRecDepth 100000 in
set_option maxHeartbeats 4000000 in
theorem hugeF_any (F : FL) (f : Fair) (w : World) (hF : FairAt w w.heap.size F f) : Calls Try.prog 96 #[F.enc f] w fun e w' => e = .returned (.bool (hugeF f)) ∧ Below w.heap.size w w' := by
  have hbw := al_below w (.cells #[.slice F.L.Ak f.h.ks.length F.L.ck, .int .i64 f.h.fl, .slice F.L.Ap f.h.ps.length F.L.cp, .slice F.L.Ab f.h.bs.length F.L.cb, .slice F.Ap f.pk.length F.cp, .int .i64 f.day, .int .i64 f.nb, .slice F.Aq f.q.length F.cq] 62)
  have HB := Lib.hid (FBox.new w F f)
  obtain ⟨c0, c1, c2, c3, c4, c5, c6, c7⟩ := (FBox.new w F f).cells
  obtain ⟨W0, hW0⟩ : ∃ W0, w.alloc (.cells #[.slice F.L.Ak f.h.ks.length F.L.ck, .int .i64 f.h.fl, .slice F.L.Ap f.h.ps.length F.L.cp, .slice F.L.Ab f.h.bs.length F.L.cb, .slice F.Ap f.pk.length F.cp, .int .i64 f.day, .int .i64 f.nb, .slice F.Aq f.q.length F.cq] 62) = W0 := ⟨_, rfl⟩
  rw [hW0] at hbw HB c0 c1 c2 c3 c4 c5 c6 c7
  have HBW := Lib.hid hbw
  have HW0 := Lib.hid hW0
  have HF := Lib.hid (hF.below hbw)
  clear hbw hW0 hF
  have H76 := Lib.hid (fun W => huge_any F.L f.h W)
  obtain ⟨L, Ap, cp, Aq, cq⟩ := F
  cases h1 : hugeB f.h
  · rw [h1] at H76
    by_cases p1 : 40 < f.pk.length
    · have hv : hugeF f = true := by simp [hugeF, p1]
      rw [hv]; clear hv
      go_enter Try.func96, Try.ntmps96
      go_upto_region 1 with (fail)
      have e := HW0.out
      rw [e]
      clear e
      go_wp2_with (go_at_call 10; refine (H76.out W0).mono ?_; rintro e w1 ⟨rfl, hb1⟩; have B1 := Lib.hid hb1; obtain ⟨c0, c1, c2, c3, c4, c5, c6, c7⟩ := (HB.out.of (hb1.block _ HB.out.lt)).cells; clear hb1)
      go_ret
      exact ⟨congrArg (fun b => Ending.returned (.bool b)) (by first | rfl | (simp; done) | (simp; omega)), hb0to HBW.out B1.out⟩
    · have p2 : f.pk.length ≤ 40 := by omega
      by_cases q1 : 40 < f.q.length
      · have hv : hugeF f = true := by simp [hugeF, q1]
        rw [hv]; clear hv p1
        go_enter Try.func96, Try.ntmps96
        go_upto_region 1 with (fail)
        have e := HW0.out
        rw [e]
        clear e
        go_wp2_with (go_at_call 10; refine (H76.out W0).mono ?_; rintro e w1 ⟨rfl, hb1⟩; have B1 := Lib.hid hb1; obtain ⟨c0, c1, c2, c3, c4, c5, c6, c7⟩ := (HB.out.of (hb1.block _ HB.out.lt)).cells; clear hb1)
        go_ret
        exact ⟨congrArg (fun b => Ending.returned (.bool b)) (by first | rfl | (simp; done) | (simp; omega)), hb0to HBW.out B1.out⟩
      · have q2 : f.q.length ≤ 40 := by omega
        clear p1 q1
        go_enter Try.func96, Try.ntmps96
        go_upto_region 1 with (fail)
        have e := HW0.out
        rw [e]
        clear e
        go_wp2_with (go_at_call 10; refine (H76.out W0).mono ?_; rintro e w1 ⟨rfl, hb1⟩; have B1 := Lib.hid hb1; obtain ⟨c0, c1, c2, c3, c4, c5, c6, c7⟩ := (HB.out.of (hb1.block _ HB.out.lt)).cells; clear hb1)
        go_loopw [3] (fun i wr => ∃ k : Nat, k ≤ f.q.length ∧ i = .int .i64 k ∧ Hid (∀ j x, j < k → f.q[j]? = some x → x.bar.length ≤ 40) ∧ Hid (Below W0.heap.size W0 wr)) (fun i _ => f.q.length - (intOf i).toNat)
        case atStart => exact ⟨0, Nat.zero_le _, rfl, Lib.hid (fun j x h => absurd h (by omega)), B1⟩
        case round =>
          obtain ⟨k, hk, rfl, hall, hb⟩ := hrel
          obtain ⟨c0, c1, c2, c3, c4, c5, c6, c7⟩ := (HB.out.of (hb.out.block _ HB.out.lt)).cells
          by_cases hlt : k < f.q.length
          · obtain ⟨x, hx⟩ : ∃ x, f.q[k]? = some x := ⟨_, List.getElem?_eq_getElem hlt⟩
            obtain ⟨bk, ok, A', c', rfl, hbk, d1, d2, d3, hA', hI⟩ := HF.out.q.at_ hx
            have e2 := below_cell hb.out d2
            have HX := Lib.hid hx
            clear d1 d2 d3 hA' hI hx
            by_cases hbar : 40 < x.bar.length
            · have hv : hugeF f = true := hugeF_yes HX.out hbar
              have HV := Lib.hid hv
              clear hv
              go_wp2_with (fail)
              go_ret
              exact ⟨(congrArg (fun b => Ending.returned (.bool b)) HV.out).symm, hb0to HBW.out hb.out⟩
            · have hbar2 : x.bar.length ≤ 40 := by omega
              go_wp2_with (fail)
              go_roundw
              case rel => exact ⟨k + 1, by omega, by go_num, Lib.hid (fun j y hj hy => by
                  rcases Nat.lt_succ_iff_lt_or_eq.1 hj with h | rfl
                  · exact hall.out j y h hy
                  · have := HX.out; rw [hy] at this; cases this; exact hbar2), hb⟩
              case measure => simp [intOf]; omega
          · obtain rfl : k = f.q.length := by omega
            have hv : hugeF f = false := hugeF_all h1 p2 q2 hall.out
            have HV := Lib.hid hv
            clear hv
            go_wp2_with (fail)
            go_ret
            exact ⟨(congrArg (fun b => Ending.returned (.bool b)) HV.out).symm, hb0to HBW.out hb.out⟩
  · rw [h1] at H76
    have hv : hugeF f = true := by simp [hugeF, h1]
    rw [hv]; clear hv
    go_enter Try.func96, Try.ntmps96
    go_upto_region 1 with (fail)
    have e := HW0.out
    rw [e]
    clear e
    go_wp2_with (go_at_call 10; refine (H76.out W0).mono ?_; rintro e w1 ⟨rfl, hb1⟩; have B1 := Lib.hid hb1; obtain ⟨c0, c1, c2, c3, c4, c5, c6, c7⟩ := (HB.out.of (hb1.block _ HB.out.lt)).cells; clear hb1)
    go_ret
    exact ⟨rfl, hb0to HBW.out B1.out⟩
open Go.RowKit

/-! most 25, winners 20, won 21. -/
/-- What the best sales of a valid fair bring. -/
def mW (f : Fair) : Int := mostV f.q (rdF f)
def wL (f : Fair) : List Nat := winL f.q (rdF f)
theorem FOK.pos' {f : Fair} (h : FOK f) : ∀ b ∈ f.q, 0 ≤ b.pay := fun b hb => (h.pay b hb).1
theorem mW_bd {f : Fair} (h : FOK f) : 0 ≤ mW f ∧ mW f ≤ 792 := by
  have h1 := mostTo_bd h.ql h.pay allM (setsL f.q (rdF f))
  have h2 := (mostV_is (rd := rdF f) h.ql h.pos').all_nonneg
  unfold mW
  unfold mostV at h2 ⊢
  omega
theorem wL_win {f : Fair} (h : FOK f) : WinIs f.q (rdF f) (wL f) := (win_of_sets h.ql h.pos').2
end Go.Proofs.Ytmbcpmnigggbaaa
namespace Go.Proofs.Ytmbcpmnigggbaaa
open Go.RowKit

/-! SalesPaid. -/
/-- What a law keeps: its fair and the fair's box. -/
structure FIn (W : World) (b : Nat) (F : FL) (f : Fair) : Prop where
  H : FairAt W W.heap.size F f
  x : FBox W b F f
theorem FIn.next {W W' : World} {b : Nat} {F : FL} {f : Fair} (h : FIn W b F f) (hb : Below W.heap.size W W') : FIn W' b F f := ⟨h.H.below hb, h.x.of (hb.block _ h.x.lt)⟩
theorem paid_le {f : Fair} (h : FOK f) : 0 ≤ paidTo f.q (rdF f) f.nb.toNat ∧ paidTo f.q (rdF f) f.nb.toNat ≤ mW f := by
  have h1 := paidTo_bd h.ql h.pos' (rd := rdF f) f.nb.toNat
  have h2 : ownTo f.q (wL f) f.nb.toNat = bringsL f.q (wL f) := ownTo_all fun i hi => by
    obtain ⟨b, hb, _⟩ := (wL_win h).sale.rdy i hi
    have := h.who b (List.mem_of_getElem? hb)
    have := h.n0
    exact ⟨b, hb, by omega, by omega⟩
  have h3 : mW f = bringsL f.q (wL f) := mostV_win h.ql h.pos'
  have h4 : ownTo f.q (winL f.q (rdF f)) f.nb.toNat = ownTo f.q (wL f) f.nb.toNat := rfl
  omega
theorem pay_bound {f : Fair} (h : FOK f) (v : Int) : 0 ≤ payV f.q (rdF f) v ∧ payV f.q (rdF f) v ≤ ownL f.q v (wL f) := payV_bd h.ql h.pos' v
end Go.Proofs.Ytmbcpmnigggbaaa
namespace Go.Proofs.Ytmbcpmnigggbaaa
open Go.RowKit

open Go.RowKit

end Go.Proofs.Ytmbcpmnigggbaaa
namespace Go.Proofs.Ytmbcpmnigggbaaa
open Go.RowKit

end Go.Proofs.Ytmbcpmnigggbaaa
namespace Go.Proofs.Ytmbcpmnigggbaaa
open Go.RowKit

/-! Two fairs that a law makes in one statement. -/
theorem copF_of {W W' : World} (h : ∀ t : TypeId, t ≠ 62 → KeepT t W W') {n : Nat} {F : FL} {f : Fair} (H : CopF W n F f) : CopF W' n F f := H.keepT (h _ (by decide)) (h _ (by decide)) (h _ (by decide))
theorem ownsQ_of {W W' : World} (h : ∀ t : TypeId, t ≠ 62 → KeepT t W W') {n : Nat} {v : Value} {q : List Bid} (H : OwnsQ InnOwn W n v q) : OwnsQ InnOwn W' n v q := H.keepO (h _ (by decide)) (h _ (by decide))
/-- The blocks of other types than a fair's are kept. -/
def K29 (W W' : World) : Prop := ∀ t : TypeId, t ≠ 62 → KeepT t W W'
theorem K29.refl (W : World) : K29 W W := fun _ _ _ _ e => e
theorem K29.drew {W W' : World} (h : K29 W W') : K29 W W'.drew := h
theorem K29.alloc {W W' : World} (h : K29 W W') (o : Obj) : K29 W (W'.alloc o) := fun t ht => (h t ht).trans (.below (al_below _ _))
theorem K29.set8 {W W' : World} (h : K29 W W') {z : Nat} (hz : ∃ arr, W'.heap[z]? = some (.cells arr 62 (0, 0))) (x0 x1 x2 x3 x4 x5 x6 x7 : Value) : K29 W ((((((((W'.setCell ⟨z, 0, none⟩ x0).setCell ⟨z, 1, none⟩ x1).setCell ⟨z, 2, none⟩ x2).setCell ⟨z, 3, none⟩ x3).setCell ⟨z, 4, none⟩ x4).setCell ⟨z, 5, none⟩ x5).setCell ⟨z, 6, none⟩ x6).setCell ⟨z, 7, none⟩ x7) := fun t ht => by
  obtain ⟨arr, hz⟩ := hz
  exact (h t ht).trans (keepT_set8 hz (fun e => ht e.symm) _ _ _ _ _ _ _ _)
/-- Two fairs, each in a variable of its own, and apart. -/
structure Two (W : World) (g1 g2 : Fair) (z1 z2 n2 : Nat) (F1 F2 : FL) (wx : World) : Prop where
  x1 : FBox wx z1 F1 g1
  x2 : FBox wx z2 F2 g2
  c1 : CopF wx W.heap.size F1 g1
  q1 : OwnsQ InnOwn wx W.heap.size (.slice F1.Aq g1.q.length F1.cq) g1.q
  c2 : CopF wx n2 F2 g2
  q2 : OwnsQ InnOwn wx n2 (.slice F2.Aq g2.q.length F2.cq) g2.q
  lt : ∀ g, F1.Aq = some g → g.block < n2
  n2 : W.heap.size ≤ n2
  l1 : W.heap.size ≤ z1
  l2 : W.heap.size ≤ z2
  ne : z1 ≠ z2
  B : Below W.heap.size W wx
theorem Two.of {W w8 wx : World} {g1 g2 : Fair} {z1 z2 n2 : Nat} {F1 F2 : FL} (hc1 : CopF w8 W.heap.size F1 g1) (hq1 : OwnsQ InnOwn w8 W.heap.size (.slice F1.Aq g1.q.length F1.cq) g1.q) (hc2 : CopF w8 n2 F2 g2) (hq2 : OwnsQ InnOwn w8 n2 (.slice F2.Aq g2.q.length F2.cq) g2.q)
    (hlt : ∀ g, F1.Aq = some g → g.block < n2) (hn : W.heap.size ≤ n2) (hk : K29 w8 wx) (h1 : FBox wx z1 F1 g1) (h2 : FBox wx z2 F2 g2) (l1 : W.heap.size ≤ z1) (l2 : W.heap.size ≤ z2) (ne : z1 ≠ z2) (hb : Below W.heap.size W wx) : Two W g1 g2 z1 z2 n2 F1 F2 wx :=
  ⟨h1, h2, copF_of hk hc1, ownsQ_of hk hq1, copF_of hk hc2, ownsQ_of hk hq2, hlt, hn, l1, l2, ne, hb⟩
theorem OwnsQ.lt {I : World → Value → List Int → Prop} {W : World} {n : Nat} {A : Option Addr} {m c : Nat} {q : List Bid} (h : OwnsQ I W n (.slice A m c) q) : ∀ g, A = some g → g.block < W.heap.size := fun g e => by
  obtain ⟨rows, _, h1, _⟩ := h
  rcases h1.2 with ⟨e0, _⟩ | ⟨g', cap, cur, e0, _, hg, _⟩
  · injection e0 with e1; rw [e1] at e; cases e
  · injection e0 with e1; rw [e1] at e; cases e; exact heap_lt hg

end Go.Proofs.Ytmbcpmnigggbaaa
namespace Go.Proofs.Ytmbcpmnigggbaaa
open Go.RowKit

end Go.Proofs.Ytmbcpmnigggbaaa
namespace Go.Proofs.Ytmbcpmnigggbaaa
open Go.RowKit

end Go.Proofs.Ytmbcpmnigggbaaa
namespace Go.Proofs.Ytmbcpmnigggbaaa
open Go.RowKit

end Go.Proofs.Ytmbcpmnigggbaaa
namespace Go.Proofs.Ytmbcpmnigggbaaa
open Go.RowKit

/-! SalesGood. -/
/-- What a law that compares a fair with a copy keeps. -/
structure CIn (W : World) (b z : Nat) (F F' : FL) (f : Fair) : Prop where
  H : FairAt W W.heap.size F f
  x : FBox W b F f
  O : FairAt W W.heap.size F' f
  y : FBox W z F' f
theorem CIn.next {W W' : World} {b z : Nat} {F F' : FL} {f : Fair} (h : CIn W b z F F' f) (hb : Below W.heap.size W W') : CIn W' b z F F' f := ⟨h.H.below hb, h.x.of (hb.block _ h.x.lt), h.O.below hb, h.y.of (hb.block _ h.y.lt)⟩
structure GIn (W : World) (b z : Nat) (F F' : FL) (f : Fair) (A A3 : Option Addr) (l : List Int) : Prop where
  C : CIn W b z F F' f
  i : IntsAt W W.heap.size A l
  j : IntsAt W W.heap.size A3 l
theorem GIn.next {W W' : World} {b z : Nat} {F F' : FL} {f : Fair} {A A3 : Option Addr} {l : List Int} (h : GIn W b z F F' f A A3 l) (hb : Below W.heap.size W W') : GIn W' b z F F' f A A3 l := ⟨h.C.next hb, ints_later h.i hb, ints_later h.j hb⟩
end Go.Proofs.Ytmbcpmnigggbaaa
namespace Go.Proofs.Ytmbcpmnigggbaaa
open Go.RowKit

end Go.Proofs.Ytmbcpmnigggbaaa
namespace Go.Proofs.Ytmbcpmnigggbaaa
open Go.RowKit

end Go.Proofs.Ytmbcpmnigggbaaa
namespace Go.Proofs.Ytmbcpmnigggbaaa
open Go.RowKit

end Go.Proofs.Ytmbcpmnigggbaaa
namespace Go.Proofs.Ytmbcpmnigggbaaa
open Go.RowKit

end Go.Proofs.Ytmbcpmnigggbaaa
namespace Go.Proofs.Ytmbcpmnigggbaaa
open Go.RowKit

end Go.Proofs.Ytmbcpmnigggbaaa
namespace Go.Proofs.Ytmbcpmnigggbaaa
open Go.RowKit

/-! Packed 62. -/
def packF (f : Fair) (p : List Int) : Fair := { f with pk := p }
end Go.Proofs.Ytmbcpmnigggbaaa
namespace Go.Proofs.Ytmbcpmnigggbaaa
open Go.RowKit

end Go.Proofs.Ytmbcpmnigggbaaa
namespace Go.Proofs.Ytmbcpmnigggbaaa
open Go.RowKit

/-! The specification's Repack 63. -/
theorem FOK.pack {f : Fair} (h : FOK f) {p : List Int} (hg : goodB f.h p = true) : FOK (packF f p) := ⟨h.h, hg, h.d0, h.d1, h.n0, h.n1, h.ql, h.bl, h.who, h.pay, h.ne, h.bar⟩
theorem FN.pack {f : Fair} (h : FN f) {p : List Int} (hp : p.length ≤ 1000) : FN (packF f p) := ⟨h.h, hp, h.q, h.b⟩
theorem good_len {h : House} {p : List Int} (hg : goodB h p = true) : p.length = h.ps.length := (goodB_parts hg).1
end Go.Proofs.Ytmbcpmnigggbaaa
namespace Go.Proofs.Ytmbcpmnigggbaaa
open Go.RowKit

/-! Far 59, packing 60. -/
def farF (f : Fair) : Bool := hugeF f || farB f.h
theorem farF_no {f : Fair} (h : farF f = false) : hugeF f = false ∧ (f.h.bs.length ^ f.pk.length ≤ 1000 ∨ validF f = false) := by
  unfold farF farB at h
  simp only [Bool.or_eq_false_iff] at h
  obtain ⟨h1, h2, h3⟩ := h
  refine ⟨h1, ?_⟩
  cases hv : validF f
  · exact .inr rfl
  · have hf := FOK.of hv
    rw [hf.h, Bool.true_and, decide_eq_false_iff_not] at h3
    refine .inl ?_
    rw [good_len hf.p]
    exact Nat.le_trans (Nat.pow_le_pow_left (Nat.le_succ _) _) (show (f.h.bs.length + 1) ^ f.h.ps.length ≤ 1000 by omega)
set_option maxRecDepth 100000 in
set_option maxHeartbeats 4000000 in
theorem farF_any (F : FL) (f : Fair) (w : World) (hF : FairAt w w.heap.size F f) : Calls Try.prog 37 #[F.enc f] w fun e w' => e = .returned (.bool (farF f)) ∧ Below w.heap.size w w' := by
  have hbw := al_below w (.cells #[.slice F.L.Ak f.h.ks.length F.L.ck, .int .i64 f.h.fl, .slice F.L.Ap f.h.ps.length F.L.cp, .slice F.L.Ab f.h.bs.length F.L.cb, .slice F.Ap f.pk.length F.cp, .int .i64 f.day, .int .i64 f.nb, .slice F.Aq f.q.length F.cq] 62)
  have HB := Lib.hid (FBox.new w F f)
  obtain ⟨c0, c1, c2, c3, c4, c5, c6, c7⟩ := (FBox.new w F f).cells
  obtain ⟨W0, hW0⟩ : ∃ W0, w.alloc (.cells #[.slice F.L.Ak f.h.ks.length F.L.ck, .int .i64 f.h.fl, .slice F.L.Ap f.h.ps.length F.L.cp, .slice F.L.Ab f.h.bs.length F.L.cb, .slice F.Ap f.pk.length F.cp, .int .i64 f.day, .int .i64 f.nb, .slice F.Aq f.q.length F.cq] 62) = W0 := ⟨_, rfl⟩
  rw [hW0] at hbw HB c0 c1 c2 c3 c4 c5 c6 c7
  have HBW := Lib.hid hbw
  have HW0 := Lib.hid hW0
  have HF := Lib.hid (hF.below hbw)
  clear hbw hW0 hF
  have H39 := Lib.hid (fun W hW => hugeF_any F f W hW)
  cases hh : hugeF f
  · rw [hh] at H39
    have H94 := Lib.hid (fun W hW => far_any F.L f.h W hW)
    have hq : farF f = farB f.h := by rw [farF, hh]; rfl
    rw [hq]
    generalize farB f.h = r at H94
    clear hh hq
    obtain ⟨L, Ap, cp, Aq, cq⟩ := F
    go_enter Try.func37, Try.ntmps37
    go_upto_region 1 with (fail)
    have e := HW0.out
    rw [e]
    clear e
    go_wp2_with (first
      | (go_at_call 96; refine (H39.out _ HF.out).mono ?_; rintro e w1 ⟨rfl, hb⟩; have B1 := Lib.hid hb; obtain ⟨r0, r1, r2, r3, r4, r5, r6, r7⟩ := (HB.out.of (hb.block _ HB.out.lt)).cells; clear hb)
      | (go_at_call 12; refine (H94.out w1 (HF.out.below B1.out).h).mono ?_; rintro e w2 ⟨rfl, hb⟩; have B2 := Lib.hid (hb0to B1.out hb); clear hb))
    go_ret
    exact ⟨rfl, hb0to HBW.out B2.out⟩
  · rw [hh] at H39
    have hq : farF f = true := by rw [farF, hh]; rfl
    rw [hq]
    clear hh hq
    obtain ⟨L, Ap, cp, Aq, cq⟩ := F
    go_enter Try.func37, Try.ntmps37
    go_upto_region 1 with (fail)
    have e := HW0.out
    rw [e]
    clear e
    go_wp2_with (go_at_call 96; refine (H39.out _ HF.out).mono ?_; rintro e w1 ⟨rfl, hb⟩; have B1 := Lib.hid hb; obtain ⟨r0, r1, r2, r3, r4, r5, r6, r7⟩ := (HB.out.of (hb.block _ HB.out.lt)).cells; clear hb)
    go_ret
    exact ⟨rfl, hb0to HBW.out B1.out⟩
end Go.Proofs.Ytmbcpmnigggbaaa
