import Derived.Test.YtmbcpmnigggbaaaGreatPP
import Derived.Test.YtmbcpmnigggbaaaGreatRI
import Derived.Laws.MakeOwn
namespace Go.Proofs.YtmbcpmnigggbaaaGreat
open Go.RowKit

/-! Same 46. -/
theorem set3_same {W : World} {b : Nat} {a0 a1 a2 x0 x1 x2 : Value} {t : TypeId} (h : W.heap[b]? = some (.cells #[a0, a1, a2] t (0, 0))) : (((W.setCell ⟨b, 0, none⟩ x0).setCell ⟨b, 1, none⟩ x1).setCell ⟨b, 2, none⟩ x2).heap[b]? = some (.cells #[x0, x1, x2] t (0, 0)) := set3_heap h _ _ _
theorem set3_other {W : World} {b z : Nat} {o : Obj} {x0 x1 x2 : Value} (h : W.heap[z]? = some o) (hn : ¬ z = b) : (((W.setCell ⟨b, 0, none⟩ x0).setCell ⟨b, 1, none⟩ x1).setCell ⟨b, 2, none⟩ x2).heap[z]? = some o := by
  have hl := heap_lt h
  have s (W : World) (o : Nat) (u : Value) : (W.setCell ⟨b, o, none⟩ u).heap.size = W.heap.size := World.size_setCell _ _ _
  exact (set_other_heap (by simp only [s]; exact hl) hn).trans ((set_other_heap (by simp only [s]; exact hl) hn).trans ((set_other_heap hl hn).trans h))
def TwoB (W : World) (A1 : Option Addr) (c1 : Nat) (A2 : Option Addr) (c2 : Nat) (x : Bid) (s t : Value) (wx : World) : Prop := ∃ z1 z2, s = .pointer (some ⟨z1, 0, none⟩) ∧ t = .pointer (some ⟨z2, 0, none⟩) ∧ BBox wx z1 A1 c1 x ∧ BBox wx z2 A2 c2 x ∧ Below W.heap.size W wx
set_option maxRecDepth 100000 in
set_option maxHeartbeats 4000000 in
theorem sameF_is (F1 F2 : FL) (f : Fair) (hn : FN f) (w : World) (h1 : FairAt w w.heap.size F1 f) (h2 : FairAt w w.heap.size F2 f) :
    Calls Tryz.prog 13 #[F1.enc f, F2.enc f] w fun e w' => e = .returned (.bool true) ∧ Below w.heap.size w w' := by
  have hB0 := hb0to (al_below w (.cells #[.slice F1.L.Ak f.h.ks.length F1.L.ck, .int .i64 f.h.fl, .slice F1.L.Ap f.h.ps.length F1.L.cp, .slice F1.L.Ab f.h.bs.length F1.L.cb, .slice F1.Ap f.pk.length F1.cp, .int .i64 f.day, .int .i64 f.nb, .slice F1.Aq f.q.length F1.cq] 32)) (al_below _ (.cells #[.slice F2.L.Ak f.h.ks.length F2.L.ck, .int .i64 f.h.fl, .slice F2.L.Ap f.h.ps.length F2.L.cp, .slice F2.L.Ab f.h.bs.length F2.L.cb, .slice F2.Ap f.pk.length F2.cp, .int .i64 f.day, .int .i64 f.nb, .slice F2.Aq f.q.length F2.cq] 32))
  have b1 := (FBox.new w F1 f).of (Below.heap_alloc _ (.cells #[.slice F2.L.Ak f.h.ks.length F2.L.ck, .int .i64 f.h.fl, .slice F2.L.Ap f.h.ps.length F2.L.cp, .slice F2.L.Ab f.h.bs.length F2.L.cb, .slice F2.Ap f.pk.length F2.cp, .int .i64 f.day, .int .i64 f.nb, .slice F2.Aq f.q.length F2.cq] 32) _ (by simp))
  have b2 : FBox _ (w.heap.size + 1) F2 f := heap_new2 w (.cells #[.slice F1.L.Ak f.h.ks.length F1.L.ck, .int .i64 f.h.fl, .slice F1.L.Ap f.h.ps.length F1.L.cp, .slice F1.L.Ab f.h.bs.length F1.L.cb, .slice F1.Ap f.pk.length F1.cp, .int .i64 f.day, .int .i64 f.nb, .slice F1.Aq f.q.length F1.cq] 32) (.cells #[.slice F2.L.Ak f.h.ks.length F2.L.ck, .int .i64 f.h.fl, .slice F2.L.Ap f.h.ps.length F2.L.cp, .slice F2.L.Ab f.h.bs.length F2.L.cb, .slice F2.Ap f.pk.length F2.cp, .int .i64 f.day, .int .i64 f.nb, .slice F2.Aq f.q.length F2.cq] 32)
  have hnq := hn.q
  have hnh := hn.h
  have hnp := hn.p
  have HNB := Lib.hid hn.b
  obtain ⟨W0, hW0⟩ : ∃ W0, (w.alloc (.cells #[.slice F1.L.Ak f.h.ks.length F1.L.ck, .int .i64 f.h.fl, .slice F1.L.Ap f.h.ps.length F1.L.cp, .slice F1.L.Ab f.h.bs.length F1.L.cb, .slice F1.Ap f.pk.length F1.cp, .int .i64 f.day, .int .i64 f.nb, .slice F1.Aq f.q.length F1.cq] 32)).alloc (.cells #[.slice F2.L.Ak f.h.ks.length F2.L.ck, .int .i64 f.h.fl, .slice F2.L.Ap f.h.ps.length F2.L.cp, .slice F2.L.Ab f.h.bs.length F2.L.cb, .slice F2.Ap f.pk.length F2.cp, .int .i64 f.day, .int .i64 f.nb, .slice F2.Aq f.q.length F2.cq] 32) = W0 := ⟨_, rfl⟩
  rw [hW0] at b1 b2 hB0
  have H1 := Lib.hid (h1.below hB0)
  have H2 := Lib.hid (h2.below hB0)
  have B1 := Lib.hid b1
  have B2 := Lib.hid b2
  obtain ⟨c0, c1, c2, c3, c4, c5, c6, c7⟩ := b1.cells
  obtain ⟨d0, d1, d2, d3, d4, d5, d6, d7⟩ := b2.cells
  have HW0 := Lib.hid hW0
  have HB0 := Lib.hid hB0
  have HS85 := Lib.hid (fun W k1 k2 => same_is F1.L F2.L f.h hn.h W k1 k2)
  have hs1 := hB0.size
  have hs2 := B2.out.lt
  clear h1 h2 b1 b2 hW0 hB0 hn
  obtain ⟨⟨Ak, ck, Ap, cp, Ab, cb⟩, Aw, cw, Aq, cq⟩ := F1
  obtain ⟨⟨Bk, dk, Bp, dp, Bb, db⟩, Bw, dw, Bq, dq⟩ := F2
  go_enter Tryz.func13, Tryz.ntmps13
  go_upto_region 1 with (fail)
  have e := HW0.out
  rw [e]
  clear e
  go_wp2_with (first
    | (go_at_call 30; refine (HS85.out _ H1.out.h H2.out.h).mono ?_; rintro e w1 ⟨rfl, hb⟩; have K1 := Lib.hid hb; obtain ⟨c0, c1, c2, c3, c4, c5, c6, c7⟩ := (B1.out.of (hb.block _ B1.out.lt)).cells; obtain ⟨d0, d1, d2, d3, d4, d5, d6, d7⟩ := (B2.out.of (hb.block _ B2.out.lt)).cells; clear hb)
    | (go_at_call 11; refine (sameInts_is _ _ _ _ f.pk hnp w1 (H1.out.below K1.out).p (H2.out.below K1.out).p).mono ?_; rintro e w2 ⟨rfl, hb⟩; have K2 := Lib.hid (hb0to K1.out hb); obtain ⟨c0, c1, c2, c3, c4, c5, c6, c7⟩ := (B1.out.of (K2.out.block _ B1.out.lt)).cells; obtain ⟨d0, d1, d2, d3, d4, d5, d6, d7⟩ := (B2.out.of (K2.out.block _ B2.out.lt)).cells; clear hb))
  clear c0 c1 c2 c3 c4 c5 c6 c7 d0 d1 d2 d3 d4 d5 d6 d7
  go_loopw [5] (fun i wr => ∃ k : Nat, k ≤ f.q.length ∧ i = .int .i64 k ∧ Hid (Below W0.heap.size W0 wr)) (fun i _ => f.q.length - (intOf i).toNat)
  case atStart => exact ⟨0, Nat.zero_le _, rfl, K2⟩
  case round =>
    obtain ⟨k, hk, rfl, hb⟩ := hrel
    obtain ⟨m0, m1, m2, m3, m4, m5, m6, m7⟩ := (B1.out.of (hb.out.block _ B1.out.lt)).cells
    obtain ⟨n0, n1, n2, n3, n4, n5, n6, n7⟩ := (B2.out.of (hb.out.block _ B2.out.lt)).cells
    clear m0 m1 m2 m3 m4 m5 m6 n0 n1 n2 n3 n4 n5 n6
    by_cases hlt : k < f.q.length
    · obtain ⟨x, hx⟩ : ∃ x, f.q[k]? = some x := ⟨_, List.getElem?_eq_getElem hlt⟩
      have hxb := HNB.out x (List.mem_of_getElem? hx)
      obtain ⟨b1, o1, A1, e1, E1, l1, p1, p2, p3, hA1, I1⟩ := H1.out.q.at_ hx
      obtain ⟨b2, o2, A2, e2, E2, l2, q1, q2, q3, hA2, I2⟩ := H2.out.q.at_ hx
      simp only at E1 E2
      have f1 := below_cell hb.out p1
      have f2 := below_cell hb.out p2
      have f3 := below_cell hb.out p3
      have g1 := below_cell hb.out q1
      have g2 := below_cell hb.out q2
      have g3 := below_cell hb.out q3
      have J1 := Lib.hid (ints_later I1 hb.out)
      have J2 := Lib.hid (ints_later I2 hb.out)
      have hsr := hb.out.size
      clear hx p1 p2 p3 q1 q2 q3 hA1 hA2 I1 I2
      subst E1 E2
      have t1 : ¬ wr.heap.size = w.heap.size := by omega
      have t2 : ¬ w.heap.size = wr.heap.size := by omega
      have t3 : ¬ wr.heap.size = w.heap.size + 1 := by omega
      have t4 : ¬ w.heap.size + 1 = wr.heap.size := by omega
      have t5 : ¬ wr.heap.size = b1 := by omega
      have t6 : ¬ b1 = wr.heap.size := by omega
      have t7 : ¬ wr.heap.size = b2 := by omega
      have t8 : ¬ b2 = wr.heap.size := by omega
      have t9 : ¬ wr.heap.size + 1 = w.heap.size := by omega
      have t10 : ¬ w.heap.size = wr.heap.size + 1 := by omega
      have t12 : ¬ w.heap.size + 1 = wr.heap.size + 1 := by omega
      have t11 : ¬ wr.heap.size + 1 = w.heap.size + 1 := by omega
      have t13 : ¬ wr.heap.size + 1 = b1 := by omega
      have t14 : ¬ b1 = wr.heap.size + 1 := by omega
      have t15 : ¬ wr.heap.size + 1 = b2 := by omega
      have t16 : ¬ b2 = wr.heap.size + 1 := by omega
      go_wp2_with (fail)
      go_cut [6, 7] (fun s t wx => TwoB wr A1 e1 A2 e2 x s t wx)
      case first =>
        go_region_held3 (fun w' => w'.cell? ⟨w.heap.size, 7, none⟩ = some (.slice (some ⟨b1, o1, none⟩) f.q.length cq) ∧ w'.cell? ⟨w.heap.size + 1, 7, none⟩ = some (.slice (some ⟨b2, o2, none⟩) f.q.length dq) ∧ w'.cell? ⟨b1, o1 + k * 3, none⟩ = some (.int .i64 x.who) ∧ w'.cell? ⟨b1, o1 + k * 3 + 1, none⟩ = some (.slice A1 x.bar.length e1) ∧ w'.cell? ⟨b1, o1 + k * 3 + 2, none⟩ = some (.int .i64 x.pay) ∧ w'.cell? ⟨b2, o2 + k * 3, none⟩ = some (.int .i64 x.who) ∧ w'.cell? ⟨b2, o2 + k * 3 + 1, none⟩ = some (.slice A2 x.bar.length e2) ∧ w'.cell? ⟨b2, o2 + k * 3 + 2, none⟩ = some (.int .i64 x.pay)) (first | go_keep) (fail)
        all_goals
          go_wp2_with (fail)
          go_meet
          exact ⟨_, _, rfl, rfl, (show _ = some (Obj.cells #[.int .i64 x.who, .slice A1 x.bar.length e1, .int .i64 x.pay] 63) from (by first | ((repeat (first | with_reducible assumption | with_reducible exact heap_new1 _ _ | with_reducible exact heap_new2 _ _ _ | with_reducible refine drew_at ?_ | with_reducible refine set3_same ?_ | with_reducible refine set3_other ?_ (by first | with_reducible assumption | exact Nat.ne_of_lt (Nat.lt_succ_self _) | exact Nat.ne_of_gt (Nat.lt_succ_self _)) | with_reducible refine heap_keep ?_)); done) | fail)), (show _ = some (Obj.cells #[.int .i64 x.who, .slice A2 x.bar.length e2, .int .i64 x.pay] 63) from (by first | ((repeat (first | with_reducible assumption | with_reducible exact heap_new1 _ _ | with_reducible exact heap_new2 _ _ _ | with_reducible refine drew_at ?_ | with_reducible refine set3_same ?_ | with_reducible refine set3_other ?_ (by first | with_reducible assumption | exact Nat.ne_of_lt (Nat.lt_succ_self _) | exact Nat.ne_of_gt (Nat.lt_succ_self _)) | with_reducible refine heap_keep ?_)); done) | fail)), (by first | ((repeat (first | with_reducible exact Below.refl _ _ | with_reducible refine Below.drew ?_ | with_reducible refine alB ?_ _ | with_reducible refine below_set3 ?_ (by first | exact Nat.le_refl _ | exact Nat.le_succ _) _ _ _)); done) | fail)⟩
      case rest =>
        obtain ⟨z1, z2, rfl, rfl, x1, x2, hbx⟩ := hcut
        obtain ⟨wx, rfl⟩ : ∃ y : World, y = wc := ⟨_, rfl⟩
        obtain ⟨u0, u1, u2⟩ := x1.cells
        obtain ⟨v0, v1, v2⟩ := x2.cells
        have K3 := Lib.hid (hb0to hb.out hbx)
        have J3 := Lib.hid (ints_later J1.out hbx)
        have J4 := Lib.hid (ints_later J2.out hbx)
        clear x1 x2 hbx m7 n7 f1 f2 f3 g1 g2 g3 t1 t2 t3 t4 t5 t6 t7 t8 t9 t10 t11 t12 t13 t14 t15 t16
        go_wp2_with (go_at_call 11; refine (sameInts_is _ _ _ _ x.bar hxb wx J3.out J4.out).mono ?_; rintro e w5 ⟨rfl, hb5⟩; have K5 := Lib.hid (hb0to K3.out hb5); clear hb5)
        go_roundw
        case rel => exact ⟨k + 1, by omega, by go_num, K5⟩
        case measure => simp [intOf]; omega
    · obtain rfl : k = f.q.length := by omega
      go_wp2_with (fail)
      go_ret
      exact ⟨rfl, hb0to HB0.out hb.out⟩

end Go.Proofs.YtmbcpmnigggbaaaGreat
namespace Go.Proofs.YtmbcpmnigggbaaaGreat
open Go.RowKit

/-! SalesGood. -/
/-- What a law that compares a fair with a copy keeps. -/
structure CIn (W : World) (b z : Nat) (F F' : FL) (f : Fair) : Prop where
  H : FairAt W W.heap.size F f
  x : FBox W b F f
  O : FairAt W W.heap.size F' f
  y : FBox W z F' f
theorem CIn.next {W W' : World} {b z : Nat} {F F' : FL} {f : Fair} (h : CIn W b z F F' f) (hb : Below W.heap.size W W') : CIn W' b z F F' f := ⟨h.H.below hb, h.x.of (hb.block _ h.x.lt), h.O.below hb, h.y.of (hb.block _ h.y.lt)⟩
structure GIn (W : World) (b z : Nat) (F F' : FL) (f : Fair) (A A3 : Option Addr) (l : List Int) : Prop where
  C : CIn W b z F F' f
  i : IntsAt W W.heap.size A l
  j : IntsAt W W.heap.size A3 l
theorem GIn.next {W W' : World} {b z : Nat} {F F' : FL} {f : Fair} {A A3 : Option Addr} {l : List Int} (h : GIn W b z F F' f A A3 l) (hb : Below W.heap.size W W') : GIn W' b z F F' f A A3 l := ⟨h.C.next hb, ints_later h.i hb, ints_later h.j hb⟩
end Go.Proofs.YtmbcpmnigggbaaaGreat
namespace Go.Proofs.YtmbcpmnigggbaaaGreat
open Go.RowKit

end Go.Proofs.YtmbcpmnigggbaaaGreat
namespace Go.Proofs.YtmbcpmnigggbaaaGreat
open Go.RowKit

end Go.Proofs.YtmbcpmnigggbaaaGreat
namespace Go.Proofs.YtmbcpmnigggbaaaGreat
open Go.RowKit

end Go.Proofs.YtmbcpmnigggbaaaGreat
namespace Go.Proofs.YtmbcpmnigggbaaaGreat
open Go.RowKit

end Go.Proofs.YtmbcpmnigggbaaaGreat
namespace Go.Proofs.YtmbcpmnigggbaaaGreat
open Go.RowKit

end Go.Proofs.YtmbcpmnigggbaaaGreat
namespace Go.Proofs.YtmbcpmnigggbaaaGreat
open Go.RowKit

/-! Packed 62. -/
def packF (f : Fair) (p : List Int) : Fair := { f with pk := p }
end Go.Proofs.YtmbcpmnigggbaaaGreat
namespace Go.Proofs.YtmbcpmnigggbaaaGreat
open Go.RowKit

end Go.Proofs.YtmbcpmnigggbaaaGreat
namespace Go.Proofs.YtmbcpmnigggbaaaGreat
open Go.RowKit

/-! The specification's Repack 63. -/
theorem FOK.pack {f : Fair} (h : FOK f) {p : List Int} (hg : goodB f.h p = true) : FOK (packF f p) := ⟨h.h, hg, h.d0, h.d1, h.n0, h.n1, h.ql, h.bl, h.who, h.pay, h.ne, h.bar⟩
theorem FN.pack {f : Fair} (h : FN f) {p : List Int} (hp : p.length ≤ 1000) : FN (packF f p) := ⟨h.h, hp, h.q, h.b⟩
theorem good_len {h : House} {p : List Int} (hg : goodB h p = true) : p.length = h.ps.length := (goodB_parts hg).1
end Go.Proofs.YtmbcpmnigggbaaaGreat
namespace Go.Proofs.YtmbcpmnigggbaaaGreat
open Go.RowKit

/-! Far 59, packing 60. -/
def farF (f : Fair) : Bool := hugeF f || farB f.h
theorem farF_no {f : Fair} (h : farF f = false) : hugeF f = false ∧ (f.h.bs.length ^ f.pk.length ≤ 1000 ∨ validF f = false) := by
  unfold farF farB at h
  simp only [Bool.or_eq_false_iff] at h
  obtain ⟨h1, h2, h3⟩ := h
  refine ⟨h1, ?_⟩
  cases hv : validF f
  · exact .inr rfl
  · have hf := FOK.of hv
    rw [hf.h, Bool.true_and, decide_eq_false_iff_not] at h3
    refine .inl ?_
    rw [good_len hf.p]
    exact Nat.le_trans (Nat.pow_le_pow_left (Nat.le_succ _) _) (show (f.h.bs.length + 1) ^ f.h.ps.length ≤ 1000 by omega)
set_option maxRecDepth 100000 in
set_option maxHeartbeats 4000000 in
theorem farF_any (F : FL) (f : Fair) (w : World) (hF : FairAt w w.heap.size F f) : Calls Tryz.prog 5 #[F.enc f] w fun e w' => e = .returned (.bool (farF f)) ∧ Below w.heap.size w w' := by
  have hbw := al_below w (.cells #[.slice F.L.Ak f.h.ks.length F.L.ck, .int .i64 f.h.fl, .slice F.L.Ap f.h.ps.length F.L.cp, .slice F.L.Ab f.h.bs.length F.L.cb, .slice F.Ap f.pk.length F.cp, .int .i64 f.day, .int .i64 f.nb, .slice F.Aq f.q.length F.cq] 32)
  have HB := Lib.hid (FBox.new w F f)
  obtain ⟨c0, c1, c2, c3, c4, c5, c6, c7⟩ := (FBox.new w F f).cells
  obtain ⟨W0, hW0⟩ : ∃ W0, w.alloc (.cells #[.slice F.L.Ak f.h.ks.length F.L.ck, .int .i64 f.h.fl, .slice F.L.Ap f.h.ps.length F.L.cp, .slice F.L.Ab f.h.bs.length F.L.cb, .slice F.Ap f.pk.length F.cp, .int .i64 f.day, .int .i64 f.nb, .slice F.Aq f.q.length F.cq] 32) = W0 := ⟨_, rfl⟩
  rw [hW0] at hbw HB c0 c1 c2 c3 c4 c5 c6 c7
  have HBW := Lib.hid hbw
  have HW0 := Lib.hid hW0
  have HF := Lib.hid (hF.below hbw)
  clear hbw hW0 hF
  have H39 := Lib.hid (fun W hW => hugeF_any F f W hW)
  cases hh : hugeF f
  · rw [hh] at H39
    have H94 := Lib.hid (fun W hW => far_any F.L f.h W hW)
    have hq : farF f = farB f.h := by rw [farF, hh]; rfl
    rw [hq]
    generalize farB f.h = r at H94
    clear hh hq
    obtain ⟨L, Ap, cp, Aq, cq⟩ := F
    go_enter Tryz.func5, Tryz.ntmps5
    go_upto_region 1 with (fail)
    have e := HW0.out
    rw [e]
    clear e
    go_wp2_with (first
      | (go_at_call 14; refine (H39.out _ HF.out).mono ?_; rintro e w1 ⟨rfl, hb⟩; have B1 := Lib.hid hb; obtain ⟨r0, r1, r2, r3, r4, r5, r6, r7⟩ := (HB.out.of (hb.block _ HB.out.lt)).cells; clear hb)
      | (go_at_call 15; refine (H94.out w1 (HF.out.below B1.out).h).mono ?_; rintro e w2 ⟨rfl, hb⟩; have B2 := Lib.hid (hb0to B1.out hb); clear hb))
    go_ret
    exact ⟨rfl, hb0to HBW.out B2.out⟩
  · rw [hh] at H39
    have hq : farF f = true := by rw [farF, hh]; rfl
    rw [hq]
    clear hh hq
    obtain ⟨L, Ap, cp, Aq, cq⟩ := F
    go_enter Tryz.func5, Tryz.ntmps5
    go_upto_region 1 with (fail)
    have e := HW0.out
    rw [e]
    clear e
    go_wp2_with (go_at_call 14; refine (H39.out _ HF.out).mono ?_; rintro e w1 ⟨rfl, hb⟩; have B1 := Lib.hid hb; obtain ⟨r0, r1, r2, r3, r4, r5, r6, r7⟩ := (HB.out.of (hb.block _ HB.out.lt)).cells; clear hb)
    go_ret
    exact ⟨rfl, hb0to HBW.out B1.out⟩
end Go.Proofs.YtmbcpmnigggbaaaGreat
